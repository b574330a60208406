/- The walk of PostsBack. -/
import Derived.Test.YtheeekmhmbkncaaPostsN
namespace Go.Proofs.Ytheeekmhmbkncaa
open Go.RowKit Spoor
set_option linter.unusedVariables false

theorem decB_yes (s : List UInt8) (b : Ba) (h : decBa s = some b) (hs : s.length ≤ 1000000000) (w : World) :
    Calls Try.prog 16 #[.string ⟨s.toArray⟩] w fun e w' => Below w.heap.size w w' ∧ ∃ (A : Option Addr) (c : Nat), e = .returned (.tuple #[.agg #[.int .i64 b.ho, .int .i64 b.fi, .slice A b.sp.length c], .int .i64 0]) ∧ SlS (.slice A b.sp.length c) b.sp w' :=
  (decodeBatch_out s w hs).mono fun _ _ ⟨h1, b', A, c, h2, h3, _, h5⟩ => by
    rw [h] at h2 h5
    obtain rfl : b' = b := h5
    exact ⟨h1, A, c, h2, h3⟩
theorem decB_no (s : List UInt8) (h : decBa s = none) (hs : s.length ≤ 1000000000) (w : World) :
    Calls Try.prog 16 #[.string ⟨s.toArray⟩] w fun e w' => Below w.heap.size w w' ∧ e = .returned (.tuple #[.agg #[.int .i64 0, .int .i64 0, .slice none 0 0], .int .i64 30]) :=
  (decodeBatch_any s w hs).mono fun _ _ h1 => by
    rcases h1 with ⟨h2, ⟨_, h3⟩ | ⟨b, v, h3, _⟩⟩
    · exact ⟨h2, h3⟩
    · rw [h] at h3; cases h3
theorem decA_yes (s : List UInt8) (a : Ak) (h : decAk s = some a) (hs : s.length ≤ 1000000000) (w : World) :
    Calls Try.prog 18 #[.string ⟨s.toArray⟩] w fun e w' => Below w.heap.size w w' ∧ e = .returned (.tuple #[.agg #[.int .i64 a.ho, .int .i64 a.fi, .int .i64 a.ne], .int .i64 0]) :=
  (decodeAck_any s w (by omega)).mono fun _ _ ⟨h1, h2⟩ => by
    rw [h] at h1
    exact ⟨h2, h1⟩
theorem decA_no (s : List UInt8) (h : decAk s = none) (hs : s.length ≤ 1000000000) (w : World) :
    Calls Try.prog 18 #[.string ⟨s.toArray⟩] w fun e w' => Below w.heap.size w w' ∧ e = .returned (.tuple #[.agg #[.int .i64 0, .int .i64 0, .int .i64 0], .int .i64 30]) :=
  (decodeAck_any s w (by omega)).mono fun _ _ ⟨h1, h2⟩ => by
    rw [h] at h1
    exact ⟨h2, h1⟩
/-- the three ways that any bytes go -/
theorem three_ways (s : List UInt8) : (∃ b, decBa s = some b ∧ b.ok = true ∧ b.bytes = s ∧ decAk s = none) ∨ (decBa s = none ∧ ∃ a, decAk s = some a ∧ a.ok = true ∧ a.bytes = s) ∨ (decBa s = none ∧ decAk s = none) := by
  cases h : decBa s with
  | some b => exact .inl ⟨b, rfl, (decBa_some h).1, (decBa_some h).2, decAk_of_ba h⟩
  | none =>
    cases k : decAk s with
    | some a => exact .inr (.inl ⟨rfl, a, rfl, (decAk_some k).1, (decAk_some k).2⟩)
    | none => exact .inr (.inr ⟨rfl, rfl⟩)
theorem box_later {w : World} (o : Obj) : Below w.heap.size w (w.alloc o) := (Below.refl _ _).alloc (Nat.le_refl _) o
set_option maxRecDepth 100000 in
set_option maxHeartbeats 16000000 in
theorem postsBack_law (W : World) (b : Ba) (x : Value) (a : Ak) (m : ByteArray) (hx : SlS x b.sp W) (hnx : x = .slice none 0 0 ∨ ∃ ad n c, x = .slice (some ad) n c) (hwx : WfB b) (fa : WfA a) (hm : m.size ≤ 140737488351232) :
    Calls Try.prog 5 #[baVal b x, akVal a, .string m] W fun e w' => e = .returned (.bool true) ∧ Below W.heap.size W w' := by
  have M0 := CuAt.start a hx
  have es : m = ⟨m.data.toList.toArray⟩ := by cases m; simp
  have em : m.size = m.data.toList.length := by rw [Array.length_toList]; rfl
  rw [em] at hm
  rw [es]
  generalize m.data.toList = m at *
  clear es em
  have CDO := Lib.hid does12_true
  have cg := fun W (h : SlS x b.sp W) => great12_any b x W h hwx
  obtain ⟨y0, y1, y2⟩ := M0.ba.cell
  have M := Lib.hid M0
  cases hG : greatBa b.sp with
  | true =>
    rw [hG] at cg
    have CG := Lib.hid cg
    clear hG cg M0 hx hnx hwx fa
    unfold boxB boxA at *
    unfold baVal akVal at *
    go_enter Try.func5, Try.ntmps5
    go_upto_region 1 with fail
    generalize World.alloc _ _ = w2 at *
    go_wp2_with fail
    refine (CG.out _ M.out.sl).mono ?_
    rintro e w3 ⟨rfl, b3⟩
    go_wp2_with fail
    go_ret
    exact ⟨rfl, btP M.out.bel b3⟩
  | false =>
    rw [hG] at cg
    have CG := Lib.hid cg
    have ce := fun W (h : SlS x b.sp W) => encodeBatch_any b x W h (greatBa_fits hG) (by have := (greatBa_no hG).1; omega)
    have ca := fun W => encodeAck_any a W fa.2.2
    have CE := Lib.hid ce
    have CA := Lib.hid ca
    have cs := fun A c W (h1 : SlS (.slice A b.sp.length c) b.sp W) (h2 : SlS x b.sp W) => sameBatch_any b b (.slice A b.sp.length c) x W h1 h2
    rw [decide_eq_true (rfl : b = b)] at cs
    have CS := Lib.hid cs
    clear hG cg ce ca cs M0 hx hnx hwx fa
    unfold boxB boxA at *
    unfold baVal akVal at *
    go_enter Try.func5, Try.ntmps5
    go_upto_region 1 with fail
    generalize World.alloc _ _ = w2 at *
    go_wp2_with fail
    refine (CG.out _ M.out.sl).mono ?_
    rintro e w3 ⟨rfl, b3⟩
    have M := Lib.hid (M.out.later b3)
    clear b3 y0 y1 y2 CG
    obtain ⟨y0, y1, y2⟩ := M.out.ba.cell
    by_cases hl : (3000 : Int) < (m.length : Int)
    · go_wp2_with fail
      go_ret
      exact ⟨rfl, M.out.bel⟩
    · have HL := Lib.hid hl
      go_upto_region 3 with fail
      cases hkb : b.ok with
      | true =>
        have c0 := CE.out
        rw [encBa_yes hkb] at c0
        have hs := ba_short hkb
        have c1 := decB_yes b.bytes b (decBa_bytes hkb) (by omega)
        have c2 := decA_no b.bytes (decAk_ba b) (by omega)
        obtain ⟨S, hS⟩ : ∃ S, b.bytes = S := ⟨_, rfl⟩
        rw [hS] at c0 c1 c2 hs
        have hs8 : ¬ ((800 : Int) < (S.length : Int)) := by omega
        have HS := Lib.hid hs8
        have C0 := Lib.hid c0
        have C1 := Lib.hid c1
        have C2 := Lib.hid c2
        clear c0 c1 c2 hs hS hkb CE hs8
        go_wp2_with fail
        refine (C0.out _ M.out.sl).mono ?_
        rintro e v0 ⟨rfl, b0⟩
        have M := Lib.hid (M.out.later b0)
        clear b0 y0 y1 y2
        go_wp2_with fail
        refine (C1.out _).mono ?_
        rintro e v1 ⟨b1, A, p, rfl, sl⟩
        have q := heap_alloc_new v1 (.cells #[.int .i64 b.ho, .int .i64 b.fi, .slice A b.sp.length p] 24)
        have b2 := box_later (w := v1) (.cells #[.int .i64 b.ho, .int .i64 b.fi, .slice A b.sp.length p] 24)
        have M := Lib.hid ((M.out.later b1).later b2)
        have SL := Lib.hid (sl.later b2)
        have Q := Lib.hid q
        clear b1 b2 q sl
        go_wp2_with fail
        refine (C2.out _).mono ?_
        rintro e v2 ⟨b3, rfl⟩
        have b4 := box_later (w := v2) (.cells #[.int .i64 0, .int .i64 0, .int .i64 0] 26)
        have M := Lib.hid ((M.out.later b3).later b4)
        have SL := Lib.hid ((SL.out.later b3).later b4)
        have q := blk_later (blk_later Q.out b3) b4
        obtain ⟨u0, u1, u2⟩ := cells3 q
        obtain ⟨y0, y1, y2⟩ := M.out.ba.cell
        clear b3 b4 q Q
        go_wp2_with fail
        refine (CS.out _ _ _ SL.out M.out.sl).mono ?_
        rintro e v3 ⟨rfl, b5⟩
        have M := Lib.hid (M.out.later b5)
        have hs8 := HS.out
        clear b5 u0 u1 u2 y0 y1 y2 SL
        go_upto_region 11 with fail
        clear C0 C1 C2 CS hs8 HS
        cases hka : a.ok with
        | true =>
          have c0 := CA.out
          rw [encAk_yes hka] at c0
          have hs := ak_short hka
          have c1 := decA_yes a.bytes a (decAk_bytes hka) (by omega)
          have c2 := decB_no a.bytes (decBa_ak a) (by omega)
          have nk := fun W => neq_ak a a W
          rw [decide_eq_true (rfl : a = a)] at nk
          generalize a.bytes = T at *
          have C0 := Lib.hid c0
          have C1 := Lib.hid c1
          have C2 := Lib.hid c2
          have NK := Lib.hid nk
          clear c0 c1 c2 nk hs hka CA
          obtain ⟨z0, z1, z2⟩ := cells3 M.out.ak
          go_wp2_with fail
          refine (C0.out _).mono ?_
          rintro e v0 ⟨rfl, b0⟩
          have M := Lib.hid (M.out.later b0)
          clear b0 z0 z1 z2
          go_wp2_with fail
          refine (C1.out _).mono ?_
          rintro e v1 ⟨b1, rfl⟩
          have q := heap_alloc_new v1 (.cells #[.int .i64 a.ho, .int .i64 a.fi, .int .i64 a.ne] 26)
          have b2 := box_later (w := v1) (.cells #[.int .i64 a.ho, .int .i64 a.fi, .int .i64 a.ne] 26)
          have M := Lib.hid ((M.out.later b1).later b2)
          have Q := Lib.hid q
          clear b1 b2 q
          go_wp2_with fail
          refine (C2.out _).mono ?_
          rintro e v2 ⟨b3, rfl⟩
          have b4 := box_later (w := v2) (.cells #[.int .i64 0, .int .i64 0, .slice none 0 0] 24)
          have M := Lib.hid ((M.out.later b3).later b4)
          have q := blk_later (blk_later Q.out b3) b4
          obtain ⟨u0, u1, u2⟩ := cells3 q
          obtain ⟨z0, z1, z2⟩ := cells3 M.out.ak
          have nk := NK.out
          have B := Lib.hid M.out.bel
          clear b3 b4 q Q M
          go_upto_region 19 with fail
          clear u0 u1 u2 z0 z1 z2 nk NK C0 C1 C2
          rcases three_ways m with ⟨c, d1, d2, d3, d4⟩ | ⟨d1, c, d2, d3, d4⟩ | ⟨d1, d2⟩
          · have c1 := decB_yes m c d1 (by have := HL.out; omega)
            have c2 := decA_no m d4 (by have := HL.out; omega)
            have c3 := fun A p W (h : SlS (.slice A c.sp.length p) c.sp W) => encodeBatch_any c (.slice A c.sp.length p) W h (all_fits (by unfold Ba.ok at d2; simp only [Bool.and_eq_true] at d2; exact d2.2)) (by unfold Ba.ok at d2; simp only [Bool.and_eq_true] at d2; have := okNums d2.1; omega)
            rw [encBa_yes d2, d3] at c3
            unfold baVal at c3
            have C1 := Lib.hid c1
            have C2 := Lib.hid c2
            have C3 := Lib.hid c3
            clear c1 c2 c3 d1 d2 d3 d4
            go_wp2_with fail
            refine (C1.out _).mono ?_
            rintro e v7 ⟨b7, A, p, rfl, sl⟩
            have q := heap_alloc_new v7 (.cells #[.int .i64 c.ho, .int .i64 c.fi, .slice A c.sp.length p] 24)
            have b8 := box_later (w := v7) (.cells #[.int .i64 c.ho, .int .i64 c.fi, .slice A c.sp.length p] 24)
            have SL := Lib.hid (sl.later b8)
            have B := Lib.hid (btP (btP B.out b7) b8)
            have Q := Lib.hid q
            clear sl b7 b8 q
            go_wp2_with fail
            refine (C2.out _).mono ?_
            rintro e v9 ⟨b9, rfl⟩
            have b10 := box_later (w := v9) (.cells #[.int .i64 0, .int .i64 0, .int .i64 0] 26)
            have SL := Lib.hid ((SL.out.later b9).later b10)
            have B := Lib.hid (btP (btP B.out b9) b10)
            have q := blk_later (blk_later Q.out b9) b10
            obtain ⟨u0, u1, u2⟩ := cells3 q
            clear b9 b10 q Q
            go_wp2_with fail
            refine (C3.out _ _ _ SL.out).mono ?_
            rintro e v11 ⟨rfl, b11⟩
            have B := Lib.hid (btP B.out b11)
            clear b11 u0 u1 u2
            go_wp2_with fail
            refine (CDO.out _).mono ?_
            rintro e v12 ⟨rfl, b12⟩
            go_wp2_with fail
            go_ret
            exact ⟨rfl, btP B.out b12⟩
          · have c1 := decB_no m d1 (by have := HL.out; omega)
            have c2 := decA_yes m c d2 (by have := HL.out; omega)
            have c3 := fun W => encodeAck_any c W (by have := okAck d3; omega)
            rw [encAk_yes d3, d4] at c3
            unfold akVal at c3
            have C1 := Lib.hid c1
            have C2 := Lib.hid c2
            have C3 := Lib.hid c3
            clear c1 c2 c3 d1 d2 d3 d4
            go_wp2_with fail
            refine (C1.out _).mono ?_
            rintro e v7 ⟨b7, rfl⟩
            have b8 := box_later (w := v7) (.cells #[.int .i64 0, .int .i64 0, .slice none 0 0] 24)
            have B := Lib.hid (btP (btP B.out b7) b8)
            clear b7 b8
            go_wp2_with fail
            refine (C2.out _).mono ?_
            rintro e v9 ⟨b9, rfl⟩
            have q := heap_alloc_new v9 (.cells #[.int .i64 c.ho, .int .i64 c.fi, .int .i64 c.ne] 26)
            have b10 := box_later (w := v9) (.cells #[.int .i64 c.ho, .int .i64 c.fi, .int .i64 c.ne] 26)
            have B := Lib.hid (btP (btP B.out b9) b10)
            obtain ⟨u0, u1, u2⟩ := cells3 q
            clear b9 b10 q
            go_wp2_with fail
            refine (C3.out _).mono ?_
            rintro e v11 ⟨rfl, b11⟩
            have B := Lib.hid (btP B.out b11)
            clear b11 u0 u1 u2
            go_wp2_with fail
            refine (CDO.out _).mono ?_
            rintro e v12 ⟨rfl, b12⟩
            go_wp2_with fail
            go_ret
            exact ⟨rfl, btP B.out b12⟩
          · have c1 := decB_no m d1 (by have := HL.out; omega)
            have c2 := decA_no m d2 (by have := HL.out; omega)
            have C1 := Lib.hid c1
            have C2 := Lib.hid c2
            clear c1 c2 d1 d2
            go_wp2_with fail
            refine (C1.out _).mono ?_
            rintro e v7 ⟨b7, rfl⟩
            have b8 := box_later (w := v7) (.cells #[.int .i64 0, .int .i64 0, .slice none 0 0] 24)
            have B := Lib.hid (btP (btP B.out b7) b8)
            clear b7 b8
            go_wp2_with fail
            refine (C2.out _).mono ?_
            rintro e v9 ⟨b9, rfl⟩
            have b10 := box_later (w := v9) (.cells #[.int .i64 0, .int .i64 0, .int .i64 0] 26)
            have B := Lib.hid (btP (btP B.out b9) b10)
            clear b9 b10
            go_wp2_with fail
            refine (CDO.out _).mono ?_
            rintro e v12 ⟨rfl, b12⟩
            go_wp2_with fail
            go_ret
            exact ⟨rfl, btP B.out b12⟩
        | false =>
          have c0 := CA.out
          rw [encAk_no hka] at c0
          have C0 := Lib.hid c0
          clear c0 hka CA
          obtain ⟨z0, z1, z2⟩ := cells3 M.out.ak
          go_wp2_with fail
          refine (C0.out _).mono ?_
          rintro e v0 ⟨rfl, b0⟩
          have B := Lib.hid (btP M.out.bel b0)
          clear b0 z0 z1 z2 M
          go_upto_region 19 with fail
          clear C0
          rcases three_ways m with ⟨c, d1, d2, d3, d4⟩ | ⟨d1, c, d2, d3, d4⟩ | ⟨d1, d2⟩
          · have c1 := decB_yes m c d1 (by have := HL.out; omega)
            have c2 := decA_no m d4 (by have := HL.out; omega)
            have c3 := fun A p W (h : SlS (.slice A c.sp.length p) c.sp W) => encodeBatch_any c (.slice A c.sp.length p) W h (all_fits (by unfold Ba.ok at d2; simp only [Bool.and_eq_true] at d2; exact d2.2)) (by unfold Ba.ok at d2; simp only [Bool.and_eq_true] at d2; have := okNums d2.1; omega)
            rw [encBa_yes d2, d3] at c3
            unfold baVal at c3
            have C1 := Lib.hid c1
            have C2 := Lib.hid c2
            have C3 := Lib.hid c3
            clear c1 c2 c3 d1 d2 d3 d4
            go_wp2_with fail
            refine (C1.out _).mono ?_
            rintro e v7 ⟨b7, A, p, rfl, sl⟩
            have q := heap_alloc_new v7 (.cells #[.int .i64 c.ho, .int .i64 c.fi, .slice A c.sp.length p] 24)
            have b8 := box_later (w := v7) (.cells #[.int .i64 c.ho, .int .i64 c.fi, .slice A c.sp.length p] 24)
            have SL := Lib.hid (sl.later b8)
            have B := Lib.hid (btP (btP B.out b7) b8)
            have Q := Lib.hid q
            clear sl b7 b8 q
            go_wp2_with fail
            refine (C2.out _).mono ?_
            rintro e v9 ⟨b9, rfl⟩
            have b10 := box_later (w := v9) (.cells #[.int .i64 0, .int .i64 0, .int .i64 0] 26)
            have SL := Lib.hid ((SL.out.later b9).later b10)
            have B := Lib.hid (btP (btP B.out b9) b10)
            have q := blk_later (blk_later Q.out b9) b10
            obtain ⟨u0, u1, u2⟩ := cells3 q
            clear b9 b10 q Q
            go_wp2_with fail
            refine (C3.out _ _ _ SL.out).mono ?_
            rintro e v11 ⟨rfl, b11⟩
            have B := Lib.hid (btP B.out b11)
            clear b11 u0 u1 u2
            go_wp2_with fail
            refine (CDO.out _).mono ?_
            rintro e v12 ⟨rfl, b12⟩
            go_wp2_with fail
            go_ret
            exact ⟨rfl, btP B.out b12⟩
          · have c1 := decB_no m d1 (by have := HL.out; omega)
            have c2 := decA_yes m c d2 (by have := HL.out; omega)
            have c3 := fun W => encodeAck_any c W (by have := okAck d3; omega)
            rw [encAk_yes d3, d4] at c3
            unfold akVal at c3
            have C1 := Lib.hid c1
            have C2 := Lib.hid c2
            have C3 := Lib.hid c3
            clear c1 c2 c3 d1 d2 d3 d4
            go_wp2_with fail
            refine (C1.out _).mono ?_
            rintro e v7 ⟨b7, rfl⟩
            have b8 := box_later (w := v7) (.cells #[.int .i64 0, .int .i64 0, .slice none 0 0] 24)
            have B := Lib.hid (btP (btP B.out b7) b8)
            clear b7 b8
            go_wp2_with fail
            refine (C2.out _).mono ?_
            rintro e v9 ⟨b9, rfl⟩
            have q := heap_alloc_new v9 (.cells #[.int .i64 c.ho, .int .i64 c.fi, .int .i64 c.ne] 26)
            have b10 := box_later (w := v9) (.cells #[.int .i64 c.ho, .int .i64 c.fi, .int .i64 c.ne] 26)
            have B := Lib.hid (btP (btP B.out b9) b10)
            obtain ⟨u0, u1, u2⟩ := cells3 q
            clear b9 b10 q
            go_wp2_with fail
            refine (C3.out _).mono ?_
            rintro e v11 ⟨rfl, b11⟩
            have B := Lib.hid (btP B.out b11)
            clear b11 u0 u1 u2
            go_wp2_with fail
            refine (CDO.out _).mono ?_
            rintro e v12 ⟨rfl, b12⟩
            go_wp2_with fail
            go_ret
            exact ⟨rfl, btP B.out b12⟩
          · have c1 := decB_no m d1 (by have := HL.out; omega)
            have c2 := decA_no m d2 (by have := HL.out; omega)
            have C1 := Lib.hid c1
            have C2 := Lib.hid c2
            clear c1 c2 d1 d2
            go_wp2_with fail
            refine (C1.out _).mono ?_
            rintro e v7 ⟨b7, rfl⟩
            have b8 := box_later (w := v7) (.cells #[.int .i64 0, .int .i64 0, .slice none 0 0] 24)
            have B := Lib.hid (btP (btP B.out b7) b8)
            clear b7 b8
            go_wp2_with fail
            refine (C2.out _).mono ?_
            rintro e v9 ⟨b9, rfl⟩
            have b10 := box_later (w := v9) (.cells #[.int .i64 0, .int .i64 0, .int .i64 0] 26)
            have B := Lib.hid (btP (btP B.out b9) b10)
            clear b9 b10
            go_wp2_with fail
            refine (CDO.out _).mono ?_
            rintro e v12 ⟨rfl, b12⟩
            go_wp2_with fail
            go_ret
            exact ⟨rfl, btP B.out b12⟩
      | false =>
        have c0 := CE.out
        rw [encBa_no hkb] at c0
        have C0 := Lib.hid c0
        clear c0 hkb CE
        go_wp2_with fail
        refine (C0.out _ M.out.sl).mono ?_
        rintro e v0 ⟨rfl, b0⟩
        have M := Lib.hid (M.out.later b0)
        clear b0 y0 y1 y2
        go_upto_region 11 with fail
        clear C0 CS
        cases hka : a.ok with
        | true =>
          have c0 := CA.out
          rw [encAk_yes hka] at c0
          have hs := ak_short hka
          have c1 := decA_yes a.bytes a (decAk_bytes hka) (by omega)
          have c2 := decB_no a.bytes (decBa_ak a) (by omega)
          have nk := fun W => neq_ak a a W
          rw [decide_eq_true (rfl : a = a)] at nk
          generalize a.bytes = T at *
          have C0 := Lib.hid c0
          have C1 := Lib.hid c1
          have C2 := Lib.hid c2
          have NK := Lib.hid nk
          clear c0 c1 c2 nk hs hka CA
          obtain ⟨z0, z1, z2⟩ := cells3 M.out.ak
          go_wp2_with fail
          refine (C0.out _).mono ?_
          rintro e v0 ⟨rfl, b0⟩
          have M := Lib.hid (M.out.later b0)
          clear b0 z0 z1 z2
          go_wp2_with fail
          refine (C1.out _).mono ?_
          rintro e v1 ⟨b1, rfl⟩
          have q := heap_alloc_new v1 (.cells #[.int .i64 a.ho, .int .i64 a.fi, .int .i64 a.ne] 26)
          have b2 := box_later (w := v1) (.cells #[.int .i64 a.ho, .int .i64 a.fi, .int .i64 a.ne] 26)
          have M := Lib.hid ((M.out.later b1).later b2)
          have Q := Lib.hid q
          clear b1 b2 q
          go_wp2_with fail
          refine (C2.out _).mono ?_
          rintro e v2 ⟨b3, rfl⟩
          have b4 := box_later (w := v2) (.cells #[.int .i64 0, .int .i64 0, .slice none 0 0] 24)
          have M := Lib.hid ((M.out.later b3).later b4)
          have q := blk_later (blk_later Q.out b3) b4
          obtain ⟨u0, u1, u2⟩ := cells3 q
          obtain ⟨z0, z1, z2⟩ := cells3 M.out.ak
          have nk := NK.out
          have B := Lib.hid M.out.bel
          clear b3 b4 q Q M
          go_upto_region 19 with fail
          clear u0 u1 u2 z0 z1 z2 nk NK C0 C1 C2
          rcases three_ways m with ⟨c, d1, d2, d3, d4⟩ | ⟨d1, c, d2, d3, d4⟩ | ⟨d1, d2⟩
          · have c1 := decB_yes m c d1 (by have := HL.out; omega)
            have c2 := decA_no m d4 (by have := HL.out; omega)
            have c3 := fun A p W (h : SlS (.slice A c.sp.length p) c.sp W) => encodeBatch_any c (.slice A c.sp.length p) W h (all_fits (by unfold Ba.ok at d2; simp only [Bool.and_eq_true] at d2; exact d2.2)) (by unfold Ba.ok at d2; simp only [Bool.and_eq_true] at d2; have := okNums d2.1; omega)
            rw [encBa_yes d2, d3] at c3
            unfold baVal at c3
            have C1 := Lib.hid c1
            have C2 := Lib.hid c2
            have C3 := Lib.hid c3
            clear c1 c2 c3 d1 d2 d3 d4
            go_wp2_with fail
            refine (C1.out _).mono ?_
            rintro e v7 ⟨b7, A, p, rfl, sl⟩
            have q := heap_alloc_new v7 (.cells #[.int .i64 c.ho, .int .i64 c.fi, .slice A c.sp.length p] 24)
            have b8 := box_later (w := v7) (.cells #[.int .i64 c.ho, .int .i64 c.fi, .slice A c.sp.length p] 24)
            have SL := Lib.hid (sl.later b8)
            have B := Lib.hid (btP (btP B.out b7) b8)
            have Q := Lib.hid q
            clear sl b7 b8 q
            go_wp2_with fail
            refine (C2.out _).mono ?_
            rintro e v9 ⟨b9, rfl⟩
            have b10 := box_later (w := v9) (.cells #[.int .i64 0, .int .i64 0, .int .i64 0] 26)
            have SL := Lib.hid ((SL.out.later b9).later b10)
            have B := Lib.hid (btP (btP B.out b9) b10)
            have q := blk_later (blk_later Q.out b9) b10
            obtain ⟨u0, u1, u2⟩ := cells3 q
            clear b9 b10 q Q
            go_wp2_with fail
            refine (C3.out _ _ _ SL.out).mono ?_
            rintro e v11 ⟨rfl, b11⟩
            have B := Lib.hid (btP B.out b11)
            clear b11 u0 u1 u2
            go_wp2_with fail
            refine (CDO.out _).mono ?_
            rintro e v12 ⟨rfl, b12⟩
            go_wp2_with fail
            go_ret
            exact ⟨rfl, btP B.out b12⟩
          · have c1 := decB_no m d1 (by have := HL.out; omega)
            have c2 := decA_yes m c d2 (by have := HL.out; omega)
            have c3 := fun W => encodeAck_any c W (by have := okAck d3; omega)
            rw [encAk_yes d3, d4] at c3
            unfold akVal at c3
            have C1 := Lib.hid c1
            have C2 := Lib.hid c2
            have C3 := Lib.hid c3
            clear c1 c2 c3 d1 d2 d3 d4
            go_wp2_with fail
            refine (C1.out _).mono ?_
            rintro e v7 ⟨b7, rfl⟩
            have b8 := box_later (w := v7) (.cells #[.int .i64 0, .int .i64 0, .slice none 0 0] 24)
            have B := Lib.hid (btP (btP B.out b7) b8)
            clear b7 b8
            go_wp2_with fail
            refine (C2.out _).mono ?_
            rintro e v9 ⟨b9, rfl⟩
            have q := heap_alloc_new v9 (.cells #[.int .i64 c.ho, .int .i64 c.fi, .int .i64 c.ne] 26)
            have b10 := box_later (w := v9) (.cells #[.int .i64 c.ho, .int .i64 c.fi, .int .i64 c.ne] 26)
            have B := Lib.hid (btP (btP B.out b9) b10)
            obtain ⟨u0, u1, u2⟩ := cells3 q
            clear b9 b10 q
            go_wp2_with fail
            refine (C3.out _).mono ?_
            rintro e v11 ⟨rfl, b11⟩
            have B := Lib.hid (btP B.out b11)
            clear b11 u0 u1 u2
            go_wp2_with fail
            refine (CDO.out _).mono ?_
            rintro e v12 ⟨rfl, b12⟩
            go_wp2_with fail
            go_ret
            exact ⟨rfl, btP B.out b12⟩
          · have c1 := decB_no m d1 (by have := HL.out; omega)
            have c2 := decA_no m d2 (by have := HL.out; omega)
            have C1 := Lib.hid c1
            have C2 := Lib.hid c2
            clear c1 c2 d1 d2
            go_wp2_with fail
            refine (C1.out _).mono ?_
            rintro e v7 ⟨b7, rfl⟩
            have b8 := box_later (w := v7) (.cells #[.int .i64 0, .int .i64 0, .slice none 0 0] 24)
            have B := Lib.hid (btP (btP B.out b7) b8)
            clear b7 b8
            go_wp2_with fail
            refine (C2.out _).mono ?_
            rintro e v9 ⟨b9, rfl⟩
            have b10 := box_later (w := v9) (.cells #[.int .i64 0, .int .i64 0, .int .i64 0] 26)
            have B := Lib.hid (btP (btP B.out b9) b10)
            clear b9 b10
            go_wp2_with fail
            refine (CDO.out _).mono ?_
            rintro e v12 ⟨rfl, b12⟩
            go_wp2_with fail
            go_ret
            exact ⟨rfl, btP B.out b12⟩
        | false =>
          have c0 := CA.out
          rw [encAk_no hka] at c0
          have C0 := Lib.hid c0
          clear c0 hka CA
          obtain ⟨z0, z1, z2⟩ := cells3 M.out.ak
          go_wp2_with fail
          refine (C0.out _).mono ?_
          rintro e v0 ⟨rfl, b0⟩
          have B := Lib.hid (btP M.out.bel b0)
          clear b0 z0 z1 z2 M
          go_upto_region 19 with fail
          clear C0
          rcases three_ways m with ⟨c, d1, d2, d3, d4⟩ | ⟨d1, c, d2, d3, d4⟩ | ⟨d1, d2⟩
          · have c1 := decB_yes m c d1 (by have := HL.out; omega)
            have c2 := decA_no m d4 (by have := HL.out; omega)
            have c3 := fun A p W (h : SlS (.slice A c.sp.length p) c.sp W) => encodeBatch_any c (.slice A c.sp.length p) W h (all_fits (by unfold Ba.ok at d2; simp only [Bool.and_eq_true] at d2; exact d2.2)) (by unfold Ba.ok at d2; simp only [Bool.and_eq_true] at d2; have := okNums d2.1; omega)
            rw [encBa_yes d2, d3] at c3
            unfold baVal at c3
            have C1 := Lib.hid c1
            have C2 := Lib.hid c2
            have C3 := Lib.hid c3
            clear c1 c2 c3 d1 d2 d3 d4
            go_wp2_with fail
            refine (C1.out _).mono ?_
            rintro e v7 ⟨b7, A, p, rfl, sl⟩
            have q := heap_alloc_new v7 (.cells #[.int .i64 c.ho, .int .i64 c.fi, .slice A c.sp.length p] 24)
            have b8 := box_later (w := v7) (.cells #[.int .i64 c.ho, .int .i64 c.fi, .slice A c.sp.length p] 24)
            have SL := Lib.hid (sl.later b8)
            have B := Lib.hid (btP (btP B.out b7) b8)
            have Q := Lib.hid q
            clear sl b7 b8 q
            go_wp2_with fail
            refine (C2.out _).mono ?_
            rintro e v9 ⟨b9, rfl⟩
            have b10 := box_later (w := v9) (.cells #[.int .i64 0, .int .i64 0, .int .i64 0] 26)
            have SL := Lib.hid ((SL.out.later b9).later b10)
            have B := Lib.hid (btP (btP B.out b9) b10)
            have q := blk_later (blk_later Q.out b9) b10
            obtain ⟨u0, u1, u2⟩ := cells3 q
            clear b9 b10 q Q
            go_wp2_with fail
            refine (C3.out _ _ _ SL.out).mono ?_
            rintro e v11 ⟨rfl, b11⟩
            have B := Lib.hid (btP B.out b11)
            clear b11 u0 u1 u2
            go_wp2_with fail
            refine (CDO.out _).mono ?_
            rintro e v12 ⟨rfl, b12⟩
            go_wp2_with fail
            go_ret
            exact ⟨rfl, btP B.out b12⟩
          · have c1 := decB_no m d1 (by have := HL.out; omega)
            have c2 := decA_yes m c d2 (by have := HL.out; omega)
            have c3 := fun W => encodeAck_any c W (by have := okAck d3; omega)
            rw [encAk_yes d3, d4] at c3
            unfold akVal at c3
            have C1 := Lib.hid c1
            have C2 := Lib.hid c2
            have C3 := Lib.hid c3
            clear c1 c2 c3 d1 d2 d3 d4
            go_wp2_with fail
            refine (C1.out _).mono ?_
            rintro e v7 ⟨b7, rfl⟩
            have b8 := box_later (w := v7) (.cells #[.int .i64 0, .int .i64 0, .slice none 0 0] 24)
            have B := Lib.hid (btP (btP B.out b7) b8)
            clear b7 b8
            go_wp2_with fail
            refine (C2.out _).mono ?_
            rintro e v9 ⟨b9, rfl⟩
            have q := heap_alloc_new v9 (.cells #[.int .i64 c.ho, .int .i64 c.fi, .int .i64 c.ne] 26)
            have b10 := box_later (w := v9) (.cells #[.int .i64 c.ho, .int .i64 c.fi, .int .i64 c.ne] 26)
            have B := Lib.hid (btP (btP B.out b9) b10)
            obtain ⟨u0, u1, u2⟩ := cells3 q
            clear b9 b10 q
            go_wp2_with fail
            refine (C3.out _).mono ?_
            rintro e v11 ⟨rfl, b11⟩
            have B := Lib.hid (btP B.out b11)
            clear b11 u0 u1 u2
            go_wp2_with fail
            refine (CDO.out _).mono ?_
            rintro e v12 ⟨rfl, b12⟩
            go_wp2_with fail
            go_ret
            exact ⟨rfl, btP B.out b12⟩
          · have c1 := decB_no m d1 (by have := HL.out; omega)
            have c2 := decA_no m d2 (by have := HL.out; omega)
            have C1 := Lib.hid c1
            have C2 := Lib.hid c2
            clear c1 c2 d1 d2
            go_wp2_with fail
            refine (C1.out _).mono ?_
            rintro e v7 ⟨b7, rfl⟩
            have b8 := box_later (w := v7) (.cells #[.int .i64 0, .int .i64 0, .slice none 0 0] 24)
            have B := Lib.hid (btP (btP B.out b7) b8)
            clear b7 b8
            go_wp2_with fail
            refine (C2.out _).mono ?_
            rintro e v9 ⟨b9, rfl⟩
            have b10 := box_later (w := v9) (.cells #[.int .i64 0, .int .i64 0, .int .i64 0] 26)
            have B := Lib.hid (btP (btP B.out b9) b10)
            clear b9 b10
            go_wp2_with fail
            refine (CDO.out _).mono ?_
            rintro e v12 ⟨rfl, b12⟩
            go_wp2_with fail
            go_ret
            exact ⟨rfl, btP B.out b12⟩
end Go.Proofs.Ytheeekmhmbkncaa
