/- The walks of the statements on ints. -/
import Derived.Test.YtohhghpdgaejhaaIntsC
namespace Go.Proofs.Ytohhghpdgaejhaa
open Go.RowKit Spoor

theorem bounds_i64 {n : Int} (h : (Lit.int .i64 n).wf = true) : -9223372036854775808 ≤ n ∧ n ≤ 9223372036854775807 := by
  simpa [Lit.wf, IntKind.min, IntKind.max, IntKind.signed, IntKind.bits] using h

/-- the bytes that Put tells, of every int -/
def putZ (n : Int) : List UInt8 := if n < 0 then [] else put n.toNat
def bigZ (n : Int) : List UInt8 := if n < 0 then [] else big n.toNat
theorem put_any (n : Int) (w : World) (h : n ≤ 9223372036854775807) :
    Calls Try.prog 10 #[.int .i64 n] w fun e w' => e = .returned (.string ⟨(putZ n).toArray⟩) ∧ Below w.heap.size w w' := by
  by_cases h0 : n < 0
  · rw [putZ, if_pos h0]; exact put_neg n w h0
  · obtain ⟨a, rfl⟩ : ∃ a : Nat, n = a := ⟨n.toNat, by omega⟩
    rw [putZ, if_neg h0]; exact put_nat a w (by omega)
theorem refPut_any (n : Int) (w : World) (h : n ≤ 9223372036854775807) :
    Calls Try.prog 11 #[.int .i64 n] w fun e w' => e = .returned (.string ⟨(putZ n).toArray⟩) ∧ Below w.heap.size w w' := by
  by_cases h0 : n < 0
  · rw [putZ, if_pos h0]; exact refPut_neg n w h0
  · obtain ⟨a, rfl⟩ : ∃ a : Nat, n = a := ⟨n.toNat, by omega⟩
    rw [putZ, if_neg h0]; exact refPut_nat a w (by omega)
theorem big_any (n : Int) (w : World) (h : n ≤ 9223372036854775807) :
    Calls Try.prog 12 #[.int .i64 n] w fun e w' => e = .returned (.string ⟨(bigZ n).toArray⟩) ∧ Below w.heap.size w w' := by
  by_cases h0 : n < 0
  · rw [bigZ, if_pos h0]; exact big_neg n w h0
  · obtain ⟨a, rfl⟩ : ∃ a : Nat, n = a := ⟨n.toNat, by omega⟩
    rw [bigZ, if_neg h0]; exact big_nat a w (by omega)
theorem refBig_any (n : Int) (w : World) (h : n ≤ 9223372036854775807) :
    Calls Try.prog 13 #[.int .i64 n] w fun e w' => e = .returned (.string ⟨(bigZ n).toArray⟩) ∧ Below w.heap.size w w' := by
  by_cases h0 : n < 0
  · rw [bigZ, if_pos h0]; exact refBig_neg n w h0
  · obtain ⟨a, rfl⟩ : ∃ a : Nat, n = a := ⟨n.toNat, by omega⟩
    rw [bigZ, if_neg h0]; exact refBig_nat a w (by omega)

theorem bt {w w1 w2 : World} (h : Below w.heap.size w w1) (k : Below w1.heap.size w1 w2) : Below w.heap.size w w2 := h.trans (k.mono h.size)

theorem intsPut_law (n : Int) (wn : (Lit.int .i64 n).wf = true) (w : World) :
    Calls Try.prog 3 #[.int .i64 n] w fun e w' => e = .returned (.bool true) ∧ Below w.heap.size w w' := by
  have hn := (bounds_i64 wn).2
  clear wn
  generalize hp : putZ n = P
  generalize hb : bigZ n = B
  have HP := Lib.hid hp
  have HB := Lib.hid hb
  clear hp hb
  go_enter Try.func3, Try.ntmps3
  go_wp2_with fail
  refine (put_any n _ hn).mono ?_
  rintro e w1 ⟨rfl, b1⟩
  rw [HP.out]
  go_wp2_with fail
  refine (refPut_any n _ hn).mono ?_
  rintro e w2 ⟨rfl, b2⟩
  rw [HP.out]
  go_wp2_with fail
  refine (big_any n _ hn).mono ?_
  rintro e w3 ⟨rfl, b3⟩
  rw [HB.out]
  go_wp2_with fail
  refine (refBig_any n _ hn).mono ?_
  rintro e w4 ⟨rfl, b4⟩
  rw [HB.out]
  go_wp2_with fail
  refine (does_true _).mono ?_
  rintro e w5 ⟨rfl, b5⟩
  go_wp2_with fail
  go_ret
  exact ⟨rfl, bt (bt (bt (bt b1 b2) b3) b4) b5⟩
theorem getV_form (a : Nat) (o : Option (Nat × Nat)) : ∃ (N M : Int) (B : Bool), getV a o = .tuple #[.int .i64 N, .int .i64 M, .bool B] := by
  match o with
  | none => exact ⟨_, _, _, rfl⟩
  | some (n, k) => exact ⟨_, _, _, rfl⟩
theorem getAt_form (l : List UInt8) (at' : Int) : ∃ (N M : Int) (B : Bool), getAt l at' = .tuple #[.int .i64 N, .int .i64 M, .bool B] := by
  unfold getAt
  split <;> exact getV_form _ _
theorem ofBigV_form (o : Option Nat) : ∃ (N : Int) (B : Bool), ofBigV o = .tuple #[.int .i64 N, .bool B] := by
  match o with
  | none => exact ⟨_, _, rfl⟩
  | some n => exact ⟨_, _, rfl⟩
theorem ofBigAt_form (l : List UInt8) (at' : Int) : ∃ (N : Int) (B : Bool), ofBigAt l at' = .tuple #[.int .i64 N, .bool B] := by
  unfold ofBigAt
  split <;> exact ofBigV_form _
theorem getTextV_form (a : Nat) (o : Option (List UInt8 × Nat)) : ∃ (t : List UInt8) (M : Int) (B : Bool), getTextV a o = .tuple #[.string ⟨t.toArray⟩, .int .i64 M, .bool B] := by
  match o with
  | none => exact ⟨[], _, _, rfl⟩
  | some (t, k) => exact ⟨t, _, _, rfl⟩
theorem getTextAt_form (l : List UInt8) (at' : Int) : ∃ (t : List UInt8) (M : Int) (B : Bool), getTextAt l at' = .tuple #[.string ⟨t.toArray⟩, .int .i64 M, .bool B] := by
  unfold getTextAt
  split <;> exact getTextV_form _ _
theorem size_max {s : ByteArray} (h : s.size ≤ 140737488351232) : s.size ≤ maxLen := by unfold maxLen; omega

theorem intsGet_law (s : ByteArray) (at' : Int) (hs : s.size ≤ 140737488351232) (_wn : (Lit.int .i64 at').wf = true) (w : World) :
    Calls Try.prog 4 #[.string s, .int .i64 at'] w fun e w' => e = .returned (.bool true) ∧ Below w.heap.size w w' := by
  have hm := size_max hs
  obtain ⟨N, M, B, hG⟩ := getAt_form s.data.toList at'
  obtain ⟨N2, B2, hO⟩ := ofBigAt_form s.data.toList at'
  have HG := Lib.hid hG
  have HO := Lib.hid hO
  have HM := Lib.hid hm
  clear hG hO hm
  go_enter Try.func4, Try.ntmps4
  go_wp2_with fail
  refine (get_any s at' _ HM.out).mono ?_
  rintro e w1 ⟨rfl, rfl⟩
  rw [HG.out]
  go_wp2_with fail
  refine (refGet_any s at' _ HM.out).mono ?_
  rintro e w2 ⟨rfl, b2⟩
  rw [HG.out]
  go_wp2_with fail
  refine (ofBig_any s at' _ HM.out).mono ?_
  rintro e w3 ⟨rfl, rfl⟩
  rw [HO.out]
  go_wp2_with fail
  refine (refOfBig_any s at' _ HM.out).mono ?_
  rintro e w4 ⟨rfl, rfl⟩
  rw [HO.out]
  go_wp2_with fail
  refine (does_true _).mono ?_
  rintro e w5 ⟨rfl, b5⟩
  go_wp2_with fail
  go_ret
  exact ⟨rfl, bt b2 b5⟩

theorem intsTexts_law (t s : ByteArray) (at' : Int) (ht : t.size ≤ 140737488351232) (hs : s.size ≤ 140737488351232) (_wn : (Lit.int .i64 at').wf = true) (w : World) :
    Calls Try.prog 6 #[.string t, .string s, .int .i64 at'] w fun e w' => e = .returned (.bool true) ∧ Below w.heap.size w w' := by
  have hm := size_max hs
  obtain ⟨u, M, B, hG⟩ := getTextAt_form s.data.toList at'
  have HG := Lib.hid hG
  have HM := Lib.hid hm
  clear hG hm
  go_enter Try.func6, Try.ntmps6
  go_wp2_with fail
  refine (getText_any s at' _ HM.out).mono ?_
  rintro e w1 ⟨rfl, rfl⟩
  rw [HG.out]
  go_wp2_with fail
  refine (refGetText_any s at' _ HM.out).mono ?_
  rintro e w2 ⟨rfl, b2⟩
  rw [HG.out]
  go_wp2_with fail
  refine (putText_any t _ (by omega)).mono ?_
  rintro e w3 ⟨rfl, b3⟩
  generalize hP : putText t.data.toList = P
  have HP := Lib.hid hP
  clear hP
  go_wp2_with fail
  refine (refPutText_any t _ (by omega)).mono ?_
  rintro e w4 ⟨rfl, b4⟩
  rw [HP.out]
  go_wp2_with fail
  refine (does_true _).mono ?_
  rintro e w5 ⟨rfl, b5⟩
  go_wp2_with fail
  go_ret
  exact ⟨rfl, bt (bt (bt b2 b3) b4) b5⟩

theorem data_append (a b : ByteArray) : (a ++ b).data.toList = a.data.toList ++ b.data.toList := by simp [ByteArray.data_append]
theorem getAt_put (A B : List UInt8) (n : Nat) (h : n ≤ 9223372036854775807) : getAt (A ++ put n ++ B) (A.length : Int) = .tuple #[.int .i64 n, .int .i64 ((A.length : Int) + ((put n).length : Int)), .bool true] := by
  rw [getAt, if_neg (by omega), Int.toNat_natCast, List.append_assoc, List.drop_left, get_put n B h]
  rfl
theorem ofBigAt_big (A B : List UInt8) (n : Nat) (h : n ≤ 9223372036854775807) : ofBigAt (A ++ big n ++ B) (A.length : Int) = .tuple #[.int .i64 n, .bool true] := by
  rw [ofBigAt, if_neg (by omega), Int.toNat_natCast, List.append_assoc, List.drop_left, ofBig_big n B h]
  rfl
theorem getTextAt_putText (A B t : List UInt8) (h : t.length ≤ 9223372036854775807) : getTextAt (A ++ putText t ++ B) (A.length : Int) = .tuple #[.string ⟨t.toArray⟩, .int .i64 ((A.length : Int) + ((putText t).length : Int)), .bool true] := by
  rw [getTextAt, if_neg (by omega), Int.toNat_natCast, List.append_assoc, List.drop_left, getText_putText t B h]
  rfl
theorem mk_list (s : ByteArray) : (⟨s.data.toList.toArray⟩ : ByteArray) = s := by simp

theorem intsBack_out (n : Int) (a b : ByteArray) (hs : a.size ≤ 140737488351232) (hb : b.size ≤ 140737488351232) (h : 1000 < a.size ∨ 1000 < b.size ∨ n < 0) (w : World) :
    Calls Try.prog 7 #[.int .i64 n, .string a, .string b] w fun e w' => e = .returned (.bool true) ∧ Below w.heap.size w w' := by
  by_cases h1 : 1000 < (a.size : Int)
  · clear h
    go_enter Try.func7, Try.ntmps7
    go_wp2_with fail
    refine (does_true _).mono ?_
    rintro e w1 ⟨rfl, b1⟩
    go_wp2_with fail
    go_ret
    exact ⟨rfl, b1⟩
  · by_cases h2 : 1000 < (b.size : Int)
    · clear h
      go_enter Try.func7, Try.ntmps7
      go_wp2_with fail
      refine (does_true _).mono ?_
      rintro e w1 ⟨rfl, b1⟩
      go_wp2_with fail
      go_ret
      exact ⟨rfl, b1⟩
    · have h3 : n < 0 := by omega
      clear h
      go_enter Try.func7, Try.ntmps7
      go_wp2_with fail
      refine (does_true _).mono ?_
      rintro e w1 ⟨rfl, b1⟩
      go_wp2_with fail
      go_ret
      exact ⟨rfl, b1⟩

theorem intsBack_in (n : Nat) (a b : ByteArray) (hn : n ≤ 9223372036854775807) (ha : a.size ≤ 1000) (hb : b.size ≤ 1000) (w : World) :
    Calls Try.prog 7 #[.int .i64 n, .string a, .string b] w fun e w' => e = .returned (.bool true) ∧ Below w.heap.size w w' := by
  have h1 : ¬ 1000 < (a.size : Int) := by omega
  have h2 : ¬ 1000 < (b.size : Int) := by omega
  have h3 : ¬ (n : Int) < 0 := by omega
  have h9 := put_length9 n hn
  have h8 := big_length n
  have hbl := bytes_len b
  have h9b := put_length9 b.size (by omega)
  have hpt : (putText b.data.toList).length ≤ 1009 := by rw [putText, List.length_append, hbl]; omega
  have e1 : getAt (a ++ ⟨(put n).toArray⟩ ++ b).data.toList (a.size : Int) = .tuple #[.int .i64 n, .int .i64 ((a.size : Int) + ((put n).length : Int)), .bool true] := by
    rw [data_append, data_append, ← bytes_len a]
    exact getAt_put _ _ n hn
  have e2 : ofBigAt (a ++ ⟨(big n).toArray⟩ ++ b).data.toList (a.size : Int) = .tuple #[.int .i64 n, .bool true] := by
    rw [data_append, data_append, ← bytes_len a]
    exact ofBigAt_big _ _ n hn
  have e3 : getTextAt (a ++ ⟨(putText b.data.toList).toArray⟩ ++ a).data.toList (a.size : Int) = .tuple #[.string b, .int .i64 ((a.size : Int) + ((putText b.data.toList).length : Int)), .bool true] := by
    rw [data_append, data_append, ← bytes_len a]
    have := getTextAt_putText a.data.toList a.data.toList b.data.toList (by omega)
    rw [mk_list] at this
    exact this
  have E1 := Lib.hid e1
  have E2 := Lib.hid e2
  have E3 := Lib.hid e3
  have cput := fun W => put_nat n W hn
  have cbig := fun W => big_nat n W hn
  have CP := Lib.hid cput
  have CB := Lib.hid cbig
  generalize put n = P at *
  generalize big n = G at *
  have H8 := Lib.hid h8
  have h8' : G.length ≤ 8 := by omega
  have h8b : ((G.length : Int) == 8) = true := by simp; omega
  clear e1 e2 e3 cput cbig h8 hbl
  have cpt := fun W => putText_any b W (by omega)
  have CT := Lib.hid cpt
  generalize putText b.data.toList = T at *
  clear cpt
  go_enter Try.func7, Try.ntmps7
  go_wp2_with fail
  refine (CP.out _).mono ?_
  rintro e w1 ⟨rfl, b1⟩
  go_wp2_with fail
  refine (CB.out _).mono ?_
  rintro e w2 ⟨rfl, b2⟩
  go_wp2_with fail
  refine (get_any _ _ _ (by unfold maxLen; simp only [ByteArray.size_append', ByteArray.size_mk', List.size_toArray]; omega)).mono ?_
  rintro e w3 ⟨rfl, rfl⟩
  rw [E1.out]
  go_wp2_with fail
  refine (ofBig_any _ _ _ (by unfold maxLen; simp only [ByteArray.size_append', ByteArray.size_mk', List.size_toArray]; omega)).mono ?_
  rintro e w4 ⟨rfl, rfl⟩
  rw [E2.out]
  go_wp2_with fail
  refine (CT.out _).mono ?_
  rintro e w5 ⟨rfl, b5⟩
  go_wp2_with fail
  refine (getText_any _ _ _ (by unfold maxLen; simp only [ByteArray.size_append', ByteArray.size_mk', List.size_toArray]; omega)).mono ?_
  rintro e w6 ⟨rfl, rfl⟩
  rw [E3.out]
  go_wp2_with fail
  refine (CT.out _).mono ?_
  rintro e w7 ⟨rfl, b7⟩
  go_wp2_with fail
  refine (does_true _).mono ?_
  rintro e w8 ⟨rfl, b8⟩
  go_wp2_with fail
  go_ret
  exact ⟨rfl, bt (bt (bt (bt b1 b2) b5) b7) b8⟩

theorem intsBack_law (n : Int) (a b : ByteArray) (wn : (Lit.int .i64 n).wf = true) (ha : a.size ≤ 140737488351232) (hb : b.size ≤ 140737488351232) (w : World) :
    Calls Try.prog 7 #[.int .i64 n, .string a, .string b] w fun e w' => e = .returned (.bool true) ∧ Below w.heap.size w w' := by
  have hn := (bounds_i64 wn).2
  by_cases h : 1000 < a.size ∨ 1000 < b.size ∨ n < 0
  · exact intsBack_out n a b ha hb h w
  · obtain ⟨k, rfl⟩ : ∃ k : Nat, n = k := ⟨n.toNat, by omega⟩
    exact intsBack_in k a b (by omega) (by omega) (by omega) w

theorem bl_snoc : ∀ (x y : List UInt8) (c d : UInt8), x.length = y.length → Op.bytesLess (x ++ [c]) (y ++ [d]) = (Op.bytesLess x y || (x == y && decide (c < d)))
  | [], [], c, d, _ => by simp [Op.bytesLess]
  | a :: x, b :: y, c, d, h => by
    have ih := bl_snoc x y c d (by simpa using h)
    simp only [List.cons_append, Op.bytesLess, ih]
    by_cases h1 : a < b
    · simp [h1]
    · by_cases h2 : a = b
      · subst h2; simp
      · have h3 : (a == b) = false := by simpa using h2
        simp [h1, h3]
theorem bigK_eq (k a b : Nat) : (bigK k a == bigK k b) = decide (a % 256 ^ k = b % 256 ^ k) := by
  rw [Bool.eq_iff_iff, beq_iff_eq, decide_eq_true_iff]
  constructor
  · intro h; rw [← val256_bigK k a, ← val256_bigK k b, h]
  · intro h
    have h1 := bigK_val256 k (bigK k a) (bigK_length k a)
    have h2 := bigK_val256 k (bigK k b) (bigK_length k b)
    rw [val256_bigK] at h1 h2
    rw [← h1, ← h2, h]
theorem bigK_less : ∀ (k a b : Nat), Op.bytesLess (bigK k a) (bigK k b) = decide (a % 256 ^ k < b % 256 ^ k)
  | 0, a, b => by simp [bigK, Op.bytesLess, Nat.mod_one]
  | k + 1, a, b => by
    rw [bigK, bigK, bl_snoc _ _ _ _ (by rw [bigK_length, bigK_length]), bigK_less k, bigK_eq k]
    have ea : a % 256 ^ (k + 1) = a / 256 % 256 ^ k * 256 + a % 256 := by rw [Nat.pow_succ, Nat.mul_comm (256 ^ k) 256, Nat.mod_mul]; omega
    have eb : b % 256 ^ (k + 1) = b / 256 % 256 ^ k * 256 + b % 256 := by rw [Nat.pow_succ, Nat.mul_comm (256 ^ k) 256, Nat.mod_mul]; omega
    rw [ea, eb]
    have hc : (UInt8.ofNat (a % 256) < UInt8.ofNat (b % 256)) ↔ a % 256 < b % 256 := by
      rw [UInt8.lt_iff_toNat_lt]; simp
    generalize a / 256 % 256 ^ k = x
    generalize b / 256 % 256 ^ k = y
    rw [Bool.eq_iff_iff]
    simp only [Bool.or_eq_true, Bool.and_eq_true, decide_eq_true_iff, hc]
    omega
theorem big_less (a b : Nat) (ha : a ≤ 9223372036854775807) (hb : b ≤ 9223372036854775807) : Op.bytesLess (big a) (big b) = decide ((a : Int) < b) := by
  rw [big, big, bigK_less, Nat.mod_eq_of_lt (by omega), Nat.mod_eq_of_lt (by omega)]
  simp
theorem big_eq (a b : Nat) (ha : a ≤ 9223372036854775807) (hb : b ≤ 9223372036854775807) : (big a == big b) = ((a : Int) == b) := by
  rw [big, big, bigK_eq, Nat.mod_eq_of_lt (by omega), Nat.mod_eq_of_lt (by omega), Bool.eq_iff_iff, beq_iff_eq, decide_eq_true_iff]
  omega

theorem intsOrder_in (a b : Nat) (ha : a ≤ 9223372036854775807) (hb : b ≤ 9223372036854775807) (w : World) :
    Calls Try.prog 5 #[.int .i64 a, .int .i64 b] w fun e w' => e = .returned (.bool true) ∧ Below w.heap.size w w' := by
  have h1 : ¬ (a : Int) < 0 := by omega
  have h2 : ¬ (b : Int) < 0 := by omega
  have c1 := fun W => big_nat a W ha
  have c2 := fun W => big_nat b W hb
  have c3 := fun W => put_nat a W ha
  have c4 := fun W => put_nat b W hb
  have hl := big_less a b ha hb
  have he := big_eq a b ha hb
  have h9 := put_length9 a ha
  have hm : ¬ ((b : Int) < a) → ((put a).length : Int) ≤ (put b).length := fun h => by have := put_mono a b (by omega); omega
  have h128 : (((put a).length : Int) == 1) = decide ((a : Int) < 128) := by
    have := put_one a
    rw [Bool.eq_iff_iff, beq_iff_eq, decide_eq_true_iff]
    omega
  have C1 := Lib.hid c1
  have C2 := Lib.hid c2
  have C3 := Lib.hid c3
  have C4 := Lib.hid c4
  have HM := Lib.hid hm
  generalize put a = P at *
  generalize put b = Q at *
  generalize big a = X at *
  generalize big b = Y at *
  clear c1 c2 c3 c4 hm
  by_cases hab : (b : Int) < a
  · go_enter Try.func5, Try.ntmps5
    go_wp2_with fail
    refine (C1.out _).mono ?_
    rintro e w1 ⟨rfl, b1⟩
    go_wp2_with fail
    refine (C2.out _).mono ?_
    rintro e w2 ⟨rfl, b2⟩
    go_wp2_with fail
    refine (C3.out _).mono ?_
    rintro e w3 ⟨rfl, b3⟩
    go_wp2_with fail
    refine (C3.out _).mono ?_
    rintro e w4 ⟨rfl, b4⟩
    go_wp2_with fail
    refine (does_true _).mono ?_
    rintro e w5 ⟨rfl, b5⟩
    go_wp2_with fail
    go_ret
    exact ⟨rfl, bt (bt (bt (bt b1 b2) b3) b4) b5⟩
  · have hpq := HM.out hab
    go_enter Try.func5, Try.ntmps5
    go_wp2_with fail
    refine (C1.out _).mono ?_
    rintro e w1 ⟨rfl, b1⟩
    go_wp2_with fail
    refine (C2.out _).mono ?_
    rintro e w2 ⟨rfl, b2⟩
    go_wp2_with fail
    refine (C3.out _).mono ?_
    rintro e w3 ⟨rfl, b3⟩
    go_wp2_with fail
    refine (C4.out _).mono ?_
    rintro e w4 ⟨rfl, b4⟩
    go_wp2_with fail
    refine (C3.out _).mono ?_
    rintro e w5 ⟨rfl, b5⟩
    go_wp2_with fail
    refine (C3.out _).mono ?_
    rintro e w6 ⟨rfl, b6⟩
    go_wp2_with fail
    refine (does_true _).mono ?_
    rintro e w7 ⟨rfl, b7⟩
    go_wp2_with fail
    go_ret
    exact ⟨rfl, bt (bt (bt (bt (bt (bt b1 b2) b3) b4) b5) b6) b7⟩
end Go.Proofs.Ytohhghpdgaejhaa
