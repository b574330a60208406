/- The walks of ints.Get, the texts, and of the reference's. -/
import Derived.Test.YtanaoepakllohaaIntsA
import Derived.Deep.RegionWith
namespace Go.Proofs.Ytanaoepakllohaa
set_option maxRecDepth 16000
open Go.RowKit Spoor

/-- what Get tells of what is got at a place -/
def getV (a : Nat) : Option (Nat × Nat) → Value
  | none => .tuple #[.int .i64 0, .int .i64 0, .bool false]
  | some (n, k) => .tuple #[.int .i64 n, .int .i64 ((a + k : Nat) : Int), .bool true]

theorem byte_at (s : ByteArray) (i : Nat) (h : i < s.size) : s[i] = s.data.toList.getD i 0 := by
  have h' : i < s.data.size := h
  show s.data[i] = (s.data.toList[i]?).getD 0
  rw [Array.getElem?_toList, Array.getElem?_eq_getElem h']
  rfl

theorem bytes_len (s : ByteArray) : s.data.toList.length = s.size := by rw [Array.length_toList]; rfl

theorem drop_at (l : List UInt8) (i : Nat) (h : i < l.length) : l.drop i = l.getD i 0 :: l.drop (i + 1) := by
  rw [List.drop_eq_getElem_cons h]; simp [List.getD, h]

theorem bits_or_i64_nat (a b : Nat) (ha : a < 9223372036854775808) (hb : b < 9223372036854775808) : bits .or .i64 (a : Int) (b : Int) = ((a ||| b : Nat) : Int) := by
  have hx : a ||| b < 2 ^ 63 := Nat.or_lt_two_pow (by omega) (by omega)
  have h1 : (BitVec.ofInt 64 (a : Int)).toNat = a := by
    rw [BitVec.ofInt_natCast, BitVec.toNat_ofNat]; exact Nat.mod_eq_of_lt (by omega)
  have h2 : (BitVec.ofInt 64 (b : Int)).toNat = b := by
    rw [BitVec.ofInt_natCast, BitVec.toNat_ofNat]; exact Nat.mod_eq_of_lt (by omega)
  show IntKind.i64.wrap ((BitVec.ofInt 64 (a : Int) ||| BitVec.ofInt 64 (b : Int)).toNat : Int) = _
  rw [BitVec.toNat_or, h1, h2, IntKind.wrap_i64]
  omega

theorem or_i64 (n : Nat) (d : Nat) (hn : n < 72057594037927936) (hd : d < 256) : bits BinOp.or IntKind.i64 ((n : Int) * 128) (bits BinOp.andNot IntKind.u8 (d : Int) 128) = ((n * 128 + d % 128 : Nat) : Int) := by
  have h1 := andNot128 ⟨d, hd⟩
  simp only at h1
  rw [h1]
  have e : ((n : Int) * 128) = ((n * 128 : Nat) : Int) := by omega
  rw [e, bits_or_i64_nat _ _ (by omega) (by omega), nat_join 7 _ _ (by omega) (by omega)]

theorem index_at (s : ByteArray) (a k : Nat) (h : a + k < s.size) (W : World) : (Instr.index 9 (.string s) (.int .i64 ((a : Int) + (k : Int)))).run Try.prog W = .ok (.int .u8 ((s.data.toList.getD (a + k) 0).toNat : Int)) W := by
  rw [run_index_string _ _ _ _ _ Try.underlying9, dif_pos (by omega)]
  have e : ((a : Int) + (k : Int)).toNat = a + k := by omega
  simp only [e, byte_at]

theorem or_i64' (n : Nat) (d : Nat) (hn : n < 72057594037927936) (hd : d < 256) : bits BinOp.or IntKind.i64 ((n : Int) * 128) (wrap64 (bits BinOp.andNot IntKind.u8 (d : Int) 128)) = ((n * 128 + d % 128 : Nat) : Int) := by
  have h1 := andNot128 ⟨d, hd⟩
  simp only at h1
  have h2 : wrap64 (bits BinOp.andNot IntKind.u8 (d : Int) 128) = bits BinOp.andNot IntKind.u8 (d : Int) 128 := by
    rw [h1]; exact IntWalk.wrap64_in _ (by omega)
  rw [h2, or_i64 n d hn hd]

theorem ret3 {a a' b b' c c' : Value} (h1 : a = a') (h2 : b = b') (h3 : c = c') : Ending.returned (.tuple #[a, b, c]) = Ending.returned (.tuple #[a', b', c']) := by rw [h1, h2, h3]

theorem ret2 {a a' b b' : Value} (h1 : a = a') (h2 : b = b') : Ending.returned (.tuple #[a, b]) = Ending.returned (.tuple #[a', b']) := by rw [h1, h2]

theorem ret1 {a a' : Value} (h1 : a = a') : Ending.returned a = Ending.returned a' := by rw [h1]

theorem int_of {k : IntKind} {a b : Int} (h : a = b) : Value.int k a = .int k b := by rw [h]

theorem take_getD (l : List UInt8) (k : Nat) (h : k < l.length) : l.take (k + 1) = l.take k ++ [l.getD k 0] := by
  rw [List.take_succ_eq_append_getElem h]
  simp [List.getD, h]

theorem get_out (s : ByteArray) (at' : Int) (w : World) (hs : s.size ≤ maxLen) (h : at' < 0 ∨ s.size ≤ at') :
    Calls Try.prog 70 #[.string s, .int .i64 at'] w fun e w' => e = .returned (getV 0 none) ∧ w = w' := by
  unfold maxLen at hs
  rcases h with h | h
  · go_enter Try.func70, Try.ntmps70
    go_wp2
    go_ret3
    exact ⟨rfl, rfl⟩
  · have h0 : ¬ at' < 0 := by omega
    go_enter Try.func70, Try.ntmps70
    go_wp2
    go_ret3
    exact ⟨rfl, rfl⟩

theorem get_flag (s : ByteArray) (a : Nat) (w : World) (h : a < s.size) (h1 : (s[a].toNat : Int) = 128) :
    Calls Try.prog 70 #[.string s, .int .i64 a] w fun e w' => e = .returned (getV 0 none) ∧ w = w' := by
  have h0 : ¬ (a : Int) < 0 := by omega
  have h2 : ((s[a].toNat : Int) == 128) = true := by simpa using h1
  have h3 : ¬ s.size ≤ a := by omega
  clear h1
  go_enter Try.func70, Try.ntmps70
  go_wp2
  go_ret3
  exact ⟨rfl, rfl⟩

theorem get_in (s : ByteArray) (a : Nat) (w : World) (hs : s.size ≤ maxLen) (h : a < s.size) (h1 : (s[a].toNat : Int) ≠ 128) :
    Calls Try.prog 70 #[.string s, .int .i64 a] w fun e w' => e = .returned (getV a (get (s.data.toList.drop a))) ∧ w = w' := by
  unfold maxLen at hs
  have hlen := bytes_len s
  have hget : get (s.data.toList.drop a) = scan 9 0 (s.data.toList.drop a) := by
    rw [drop_at _ a (by omega), Spoor.get, if_neg]
    rw [← byte_at s a h]
    omega
  rw [hget]
  clear hget
  have HLen := Lib.hid hlen
  have h0 : ¬ (a : Int) < 0 := by omega
  have h2 : ((s[a].toNat : Int) == 128) = false := by simpa using h1
  have h3 : ¬ s.size ≤ a := by omega
  obtain ⟨m, hm⟩ : ∃ m, m = min 9 (s.size - a) := ⟨_, rfl⟩
  have hm1 : 1 ≤ m := by omega
  have hm9 : m ≤ 9 := by omega
  have hms : a + m ≤ s.size := by omega
  have HI : Hid (min (9 : Int) ((s.size : Int) - (a : Int)) = (m : Int)) := by show _ = _; omega
  have HM : Hid (m = 9 ∨ a + m = s.size) := by show _ ∨ _; omega
  clear h1 hm hlen
  go_enter Try.func70, Try.ntmps70
  go_wp2
  rw [HI.out]
  go_loop [4, 28] (fun v i => ∃ k acc : Nat, k ≤ m ∧ acc < 128 ^ k ∧ i = .int .i64 k ∧ v = .int .i64 acc ∧ Hid (scan 9 0 (s.data.toList.drop a) = (scan (9 - k) acc (s.data.toList.drop (a + k))).map fun p => (p.1, p.2 + k))) (fun _ i => m - (intOf i).toNat)
  case atStart => exact ⟨0, 0, by omega, by simp, rfl, rfl, by show _ = _; simp⟩
  case round =>
    obtain ⟨k, acc, hk, hacc, rfl, rfl, hsc⟩ := hrel
    by_cases hlt : k < m
    · have hacc7 : acc < 72057594037927936 := by
        have : 128 ^ k ≤ 128 ^ 8 := Nat.pow_le_pow_right (by decide) (by omega)
        omega
      have hks : a + k < s.size := by omega
      have hidx := index_at s a k hks
      have hb8 := (s.data.toList.getD (a + k) 0).toNat_lt
      have hst := hsc.out
      rw [drop_at _ (a + k) (by rw [HLen.out]; omega), show 9 - k = (9 - (k + 1)) + 1 by omega, scan] at hst
      generalize (s.data.toList.getD (a + k) 0).toNat = c at hidx hb8 hst
      have Hst := Lib.hid hst
      have Hacc := Lib.hid hacc
      clear hst hacc
      by_cases hc : (c : Int) < 128
      · go_wp2
        go_ret3
        have e : scan 9 0 (s.data.toList.drop a) = some (acc * 128 + c, 1 + k) := by rw [Hst.out, if_pos (by omega)]; rfl
        refine ⟨?_, rfl⟩
        rw [e]
        exact ret3 (int_of (by rw [or_i64' acc c hacc7 (by omega)]; omega)) (int_of (by omega)) rfl
      · go_wp2
        go_round
        case rel =>
          refine ⟨k + 1, acc * 128 + c % 128, by omega, ?_, by go_num, by rw [or_i64' acc c hacc7 (by omega)], ?_⟩
          · have := Hacc.out; rw [Nat.pow_succ]; omega
          · show _ = _
            rw [Hst.out, if_neg (by omega), Option.map_map, Nat.add_assoc]
            congr 1
            funext p
            simp only [Function.comp_apply, Prod.mk.injEq, true_and]
            omega
        case measure => simp [intOf]; omega
    · obtain rfl : k = m := by omega
      have e : scan 9 0 (s.data.toList.drop a) = none := by
        rw [hsc.out]
        rcases HM.out with h9 | h9
        · subst h9; rfl
        · rw [h9, List.drop_of_length_le (by rw [HLen.out]; exact Nat.le_refl _)]
          cases 9 - k <;> rfl
      have He := Lib.hid e
      clear e
      go_wp2
      go_ret3
      refine ⟨?_, rfl⟩
      rw [He.out]
      exact ret3 rfl rfl rfl

/-- ints.Get, at every text and place -/
def getAt (l : List UInt8) (at' : Int) : Value := if at' < 0 then getV 0 none else getV at'.toNat (get (l.drop at'.toNat))

theorem get_any (s : ByteArray) (at' : Int) (w : World) (hs : s.size ≤ maxLen) :
    Calls Try.prog 70 #[.string s, .int .i64 at'] w fun e w' => e = .returned (getAt s.data.toList at') ∧ w = w' := by
  have hlen := bytes_len s
  by_cases h0 : at' < 0
  · have e : getAt s.data.toList at' = getV 0 none := by rw [getAt, if_pos h0]
    rw [e]
    exact get_out s at' w hs (.inl h0)
  · obtain ⟨a, rfl⟩ : ∃ a : Nat, at' = a := ⟨at'.toNat, by omega⟩
    have e : getAt s.data.toList (a : Int) = getV a (get (s.data.toList.drop a)) := by rw [getAt, if_neg h0]; rfl
    rw [e]
    by_cases h1 : a < s.size
    · by_cases h2 : (s[a].toNat : Int) = 128
      · have e2 : get (s.data.toList.drop a) = none := by
          rw [drop_at _ a (by omega), Spoor.get, if_pos]
          rw [← byte_at s a h1]; omega
        rw [e2]
        exact get_flag s a w h1 h2
      · exact get_in s a w hs h1 h2
    · rw [List.drop_of_length_le (by omega)]
      exact get_out s a w hs (.inr (by omega))

/-- what PutText tells -/
theorem putText_any (s : ByteArray) (w : World) (hs : s.size ≤ 140737488355328) :
    Calls Try.prog 33 #[.string s] w fun e w' => e = .returned (.string ⟨(putText s.data.toList).toArray⟩) ∧ Below w.heap.size w w' := by
  have hlen := bytes_len s
  have h9 := put_length9 s.size (by omega)
  have e : (⟨(putText s.data.toList).toArray⟩ : ByteArray) = ⟨(put s.size).toArray⟩ ++ s := by
    rw [putText, hlen]
    exact (ByteArray.mk_append_mk (put s.size) s.data.toList).symm
  have He := Lib.hid e
  clear hlen e
  go_enter Try.func33, Try.ntmps33
  go_wp2_with (go_at_call 30; refine (put_nat s.size _ (by omega)).mono ?_; rintro e w1 ⟨rfl, hb⟩)
  go_ret
  exact ⟨ret1 (by rw [He.out]; rfl), hb⟩

theorem refPutText_any (s : ByteArray) (w : World) (hs : s.size ≤ 140737488355328) :
    Calls Try.prog 40 #[.string s] w fun e w' => e = .returned (.string ⟨(putText s.data.toList).toArray⟩) ∧ Below w.heap.size w w' := by
  have hlen := bytes_len s
  have h9 := put_length9 s.size (by omega)
  have e : (⟨(putText s.data.toList).toArray⟩ : ByteArray) = ⟨(put s.size).toArray⟩ ++ s := by
    rw [putText, hlen]
    exact (ByteArray.mk_append_mk (put s.size) s.data.toList).symm
  have He := Lib.hid e
  clear hlen e
  go_enter Try.func40, Try.ntmps40
  go_wp2_with (go_at_call 41; refine (refPut_nat s.size _ (by omega)).mono ?_; rintro e w1 ⟨rfl, hb⟩)
  go_ret
  exact ⟨ret1 (by rw [He.out]; rfl), hb⟩

theorem extract_bytes (s : ByteArray) (i j : Nat) : s.extract i j = ⟨((s.data.toList.drop i).take (j - i)).toArray⟩ := by
  have : s = ⟨s.data.toList.toArray⟩ := by simp
  conv => lhs; rw [this]
  exact ByteArray.extract_mk _ _ _

theorem slice_at (s : ByteArray) (i j : Nat) (I J : Int) (hI : I = i) (hJ : J = j) (h1 : i ≤ j) (h2 : j ≤ s.size) (W : World) :
    (Instr.slice 9 (.string s) (some (.int .i64 I)) (some (.int .i64 J)) none).run Try.prog W = .ok (.string ⟨((s.data.toList.drop i).take (j - i)).toArray⟩) W := by
  rw [run_slice_string W _ s .i64 .i64 I J Try.underlying9 (by omega) (by omega) (by omega), extract_bytes]
  have e1 : I.toNat = i := by omega
  have e2 : J.toNat = j := by omega
  rw [e1, e2]

/-- what GetText tells -/
def getTextV (a : Nat) : Option (List UInt8 × Nat) → Value
  | none => .tuple #[.string ⟨#[]⟩, .int .i64 0, .bool false]
  | some (t, k) => .tuple #[.string ⟨t.toArray⟩, .int .i64 ((a + k : Nat) : Int), .bool true]

def getTextAt (l : List UInt8) (at' : Int) : Value := if at' < 0 then getTextV 0 none else getTextV at'.toNat (getText (l.drop at'.toNat))

theorem getText_any (s : ByteArray) (at' : Int) (w : World) (hs : s.size ≤ maxLen) :
    Calls Try.prog 71 #[.string s, .int .i64 at'] w fun e w' => e = .returned (getTextAt s.data.toList at') ∧ w = w' := by
  have hlen := bytes_len s
  have hs' := hs
  unfold maxLen at hs'
  have none_case : getAt s.data.toList at' = getV 0 none → getTextAt s.data.toList at' = getTextV 0 none → Calls Try.prog 71 #[.string s, .int .i64 at'] w fun e w' => e = .returned (getTextAt s.data.toList at') ∧ w = w' := by
    intro e1 e2
    have c := get_any s at' w hs
    rw [e1] at c
    rw [e2]
    clear e1 e2 hlen
    unfold getV at c
    go_enter Try.func71, Try.ntmps71
    go_wp2_with (go_at_call 70; refine c.mono ?_; rintro e w1 ⟨rfl, rfl⟩)
    go_ret3
    exact ⟨ret3 rfl rfl rfl, rfl⟩
  by_cases h0 : at' < 0
  · exact none_case (by rw [getAt, if_pos h0]) (by rw [getTextAt, if_pos h0])
  · obtain ⟨a, rfl⟩ : ∃ a : Nat, at' = a := ⟨at'.toNat, by omega⟩
    have ea : (a : Int).toNat = a := by omega
    cases hg : get (s.data.toList.drop a) with
    | none => exact none_case (by rw [getAt, if_neg h0, ea, hg]; rfl) (by rw [getTextAt, if_neg h0, ea, getText, hg]; rfl)
    | some p =>
      obtain ⟨n, k⟩ := p
      obtain ⟨g1, g2, g3, g4, g5⟩ := get_some hg
      rw [List.length_drop, hlen] at g3
      have e1 : getAt s.data.toList (a : Int) = getV a (some (n, k)) := by rw [getAt, if_neg h0, ea, hg]
      have c := get_any s (a : Int) w hs
      rw [e1] at c
      unfold getV at c
      by_cases hle : n ≤ s.size - (a + k)
      · have e2 : getTextAt s.data.toList (a : Int) = .tuple #[.string ⟨((s.data.toList.drop (a + k)).take n).toArray⟩, .int .i64 (((a + k : Nat) : Int) + n), .bool true] := by
          rw [getTextAt, if_neg h0, ea, getText, hg]
          simp only
          rw [if_pos (by rw [List.length_drop]; omega), getTextV, List.drop_drop]
          rw [show ((a + (k + n) : Nat) : Int) = ((a + k : Nat) : Int) + n by omega]
        have HE := Lib.hid e2
        have hsl := slice_at s (a + k) (a + k + n) ((a : Int) + (k : Int)) ((a : Int) + (k : Int) + (n : Int)) (by omega) (by omega) (by omega) (by omega)
        rw [show a + k + n - (a + k) = n by omega] at hsl
        have hgt : ¬ (s.size : Int) - ((a : Int) + (k : Int)) < n := by omega
        clear e1 e2 hg g5 hlen none_case ea
        go_enter Try.func71, Try.ntmps71
        go_wp2_with (go_at_call 70; refine c.mono ?_; rintro e w1 ⟨rfl, rfl⟩)
        go_ret3
        refine ⟨?_, rfl⟩
        rw [HE.out]
        exact ret3 rfl rfl rfl
      · have e2 : getTextAt s.data.toList (a : Int) = getTextV 0 none := by
          rw [getTextAt, if_neg h0, ea, getText, hg]
          simp only
          rw [if_neg (by rw [List.length_drop]; omega)]
          rfl
        have HE := Lib.hid e2
        have hgt : (s.size : Int) - ((a : Int) + (k : Int)) < n := by omega
        clear e1 e2 hg g5 hlen none_case ea
        go_enter Try.func71, Try.ntmps71
        go_wp2_with (go_at_call 70; refine c.mono ?_; rintro e w1 ⟨rfl, rfl⟩)
        go_ret3
        refine ⟨?_, rfl⟩
        rw [HE.out]
        exact ret3 rfl rfl rfl

theorem refGet_out (s : ByteArray) (at' : Int) (w : World) (hs : s.size ≤ maxLen) (h : at' < 0 ∨ s.size ≤ at') :
    Calls Try.prog 53 #[.string s, .int .i64 at'] w fun e w' => e = .returned (getV 0 none) ∧ Below w.heap.size w w' := by
  unfold maxLen at hs
  rcases h with h | h
  · go_enter Try.func53, Try.ntmps53
    go_wp2
    go_ret3
    exact ⟨rfl, Below.refl _ _⟩
  · have h0 : ¬ at' < 0 := by omega
    go_enter Try.func53, Try.ntmps53
    go_wp2
    go_ret3
    exact ⟨rfl, Below.refl _ _⟩

theorem index_nat (s : ByteArray) (i : Nat) (h : i < s.size) (W : World) : (Instr.index 9 (.string s) (.int .i64 (i : Int))).run Try.prog W = .ok (.int .u8 ((s.data.toList.getD i 0).toNat : Int)) W := by
  rw [run_index_string _ _ _ _ _ Try.underlying9, dif_pos (by omega)]
  have e : (i : Int).toNat = i := by omega
  simp only [e, byte_at]

theorem refGet_in (s : ByteArray) (a : Nat) (w : World) (hs : s.size ≤ maxLen) (h : a < s.size) :
    Calls Try.prog 53 #[.string s, .int .i64 a] w fun e w' => e = .returned (getV a (get (s.data.toList.drop a))) ∧ Below w.heap.size w w' := by
  unfold maxLen at hs
  have hlen := bytes_len s
  have HLen := Lib.hid hlen
  clear hlen
  have h0 : ¬ (a : Int) < 0 := by omega
  have h3 : ¬ s.size ≤ a := by omega
  go_enter Try.func53, Try.ntmps53
  go_wp2
  go_loop [7] (fun v => ∃ j : Nat, a + j ≤ s.size ∧ v = .int .i64 ((a : Int) + (j : Int)) ∧ Hid (∀ i, i < j → 128 ≤ ((s.data.toList.drop a).getD i 0).toNat)) (fun v => s.size - (intOf v).toNat)
  case atStart => exact ⟨0, by omega, by go_num, fun i hi => by omega⟩
  case round =>
    obtain ⟨j, hj, rfl, hfl⟩ := hrel
    by_cases hlt : a + j < s.size
    · have hidx := index_at s a j hlt
      have hb8 := (s.data.toList.getD (a + j) 0).toNat_lt
      have hst : ((s.data.toList.drop a).getD j 0).toNat = (s.data.toList.getD (a + j) 0).toNat := by simp [List.getD, List.getElem?_drop]
      generalize (s.data.toList.getD (a + j) 0).toNat = c at hidx hb8 hst
      have Hst := Lib.hid hst
      clear hst
      by_cases hc : 128 ≤ (c : Int)
      · go_wp2
        go_round
        case rel =>
          refine ⟨j + 1, by omega, by go_num, fun i hi => ?_⟩
          by_cases hij : i < j
          · exact hfl.out i hij
          · have : i = j := by omega
            subst this
            have := Hst.out
            omega
        case measure => simp [intOf]; omega
      · have hne : (((a : Int) + (j : Int)) == (s.size : Int)) = false := by simp; omega
        have hlow : ((s.data.toList.drop a).getD j 0).toNat < 128 := by have := Hst.out; omega
        have hjl : j < (s.data.toList.drop a).length := by rw [List.length_drop, HLen.out]; omega
        by_cases h8 : 8 < j
        · have e : get (s.data.toList.drop a) = none := get_flags_none _ j (by omega) (.inr h8) hfl.out
          have He := Lib.hid e
          clear e hlow
          go_wp2
          go_ret3
          refine ⟨?_, Below.refl _ _⟩
          rw [He.out]
          exact ret3 rfl rfl rfl
        · have e := get_flags _ j hjl (by omega) hfl.out hlow
          have He := Lib.hid e
          have Hjl := Lib.hid hjl
          clear e hlow hjl
          go_wp2
          clear hidx Hst hb8 hc hne
          go_loop [8, 9] (fun v i => ∃ k acc : Nat, k ≤ j + 1 ∧ acc < 128 ^ k ∧ i = .int .i64 ((a : Int) + (k : Int)) ∧ v = .int .i64 acc ∧ Hid (acc = val 0 ((s.data.toList.drop a).take k))) (fun _ i => a + j + 1 - (intOf i).toNat)
          case atStart => exact ⟨0, 0, by omega, by simp, by go_num, rfl, rfl⟩
          case round =>
            obtain ⟨k, acc, hk, hacc, rfl, rfl, hv⟩ := hrel
            have hacc9 : acc ≤ 9223372036854775807 := by
              have : 128 ^ k ≤ 128 ^ 9 := Nat.pow_le_pow_right (by decide) (by omega)
              omega
            by_cases hlt2 : k < j + 1
            · have hidx2 := index_at s a k (by omega)
              have hb9 := (s.data.toList.getD (a + k) 0).toNat_lt
              have hacc7 : acc < 72057594037927936 := by
                have : 128 ^ k ≤ 128 ^ 8 := Nat.pow_le_pow_right (by decide) (by omega)
                omega
              have hst2 : val 0 ((s.data.toList.drop a).take (k + 1)) = acc * 128 + (s.data.toList.getD (a + k) 0).toNat % 128 := by
                rw [take_getD _ k (by have := Hjl.out; omega), val_snoc, ← hv.out]
                simp [List.getD, List.getElem?_drop]
              generalize (s.data.toList.getD (a + k) 0).toNat = d at hidx2 hb9 hst2
              have Hst2 := Lib.hid hst2
              have Hacc := Lib.hid hacc
              clear hst2 hacc
              go_wp2
              go_round
              case rel =>
                refine ⟨k + 1, acc * 128 + d % 128, by omega, ?_, by go_num, by go_num, Hst2.out.symm⟩
                have := Hacc.out
                rw [Nat.pow_succ]
                omega
              case measure => simp [intOf]; omega
            · obtain rfl : k = j + 1 := by omega
              have hsl := slice_at s a (a + j + 1) (a : Int) ((a : Int) + (j : Int) + 1) (by omega) (by omega) (by omega) (by omega)
              rw [show a + j + 1 - a = j + 1 by omega] at hsl
              have hv2 := He.out
              rw [← hv.out] at hv2
              generalize (s.data.toList.drop a).take (j + 1) = L at hsl hv2
              have Hv2 := Lib.hid hv2
              have hwr : IntKind.i64.wrap ((a : Int) + (j : Int) + 1) = (a : Int) + (j : Int) + 1 := IntWalk.i64_in _ (by omega)
              clear hv2 hacc
              cases heqB : (put acc == L) with
              | true =>
                obtain rfl : put acc = L := by simpa using heqB
                clear heqB
                go_wp2
                go_region_with ((go_at_call 41; refine (refPut_nat acc _ hacc9).mono ?_; rintro e w1 ⟨rfl, hb⟩))
                go_wp2
                go_ret3
                refine ⟨?_, ((Below.refl _ w).drew).trans hb⟩
                rw [Hv2.out, if_pos trivial]
                exact ret3 rfl (int_of (by omega)) rfl
              | false =>
                go_wp2
                go_region_with ((go_at_call 41; refine (refPut_nat acc _ hacc9).mono ?_; rintro e w1 ⟨rfl, hb⟩))
                go_wp2
                go_ret3
                refine ⟨?_, ((Below.refl _ w).drew).trans hb⟩
                rw [Hv2.out, if_neg (by simpa using heqB)]
                exact ret3 rfl rfl rfl
    · have e : get (s.data.toList.drop a) = none := get_flags_none _ j (by rw [List.length_drop, HLen.out]; omega) (.inl (by rw [List.length_drop, HLen.out]; omega)) hfl.out
      have He := Lib.hid e
      clear e
      go_wp2
      go_ret3
      refine ⟨?_, Below.refl _ _⟩
      rw [He.out]
      exact ret3 rfl rfl rfl

theorem refGet_any (s : ByteArray) (at' : Int) (w : World) (hs : s.size ≤ maxLen) :
    Calls Try.prog 53 #[.string s, .int .i64 at'] w fun e w' => e = .returned (getAt s.data.toList at') ∧ Below w.heap.size w w' := by
  have hlen := bytes_len s
  by_cases h0 : at' < 0
  · have e : getAt s.data.toList at' = getV 0 none := by rw [getAt, if_pos h0]
    rw [e]
    exact refGet_out s at' w hs (.inl h0)
  · obtain ⟨a, rfl⟩ : ∃ a : Nat, at' = a := ⟨at'.toNat, by omega⟩
    have e : getAt s.data.toList (a : Int) = getV a (get (s.data.toList.drop a)) := by rw [getAt, if_neg h0]; rfl
    rw [e]
    by_cases h1 : a < s.size
    · exact refGet_in s a w hs h1
    · rw [List.drop_of_length_le (by omega)]
      exact refGet_out s a w hs (.inr (by omega))
theorem refGetText_any (s : ByteArray) (at' : Int) (w : World) (hs : s.size ≤ maxLen) :
    Calls Try.prog 54 #[.string s, .int .i64 at'] w fun e w' => e = .returned (getTextAt s.data.toList at') ∧ Below w.heap.size w w' := by
  have hlen := bytes_len s
  have hs' := hs
  unfold maxLen at hs'
  have none_case : getAt s.data.toList at' = getV 0 none → getTextAt s.data.toList at' = getTextV 0 none → Calls Try.prog 54 #[.string s, .int .i64 at'] w fun e w' => e = .returned (getTextAt s.data.toList at') ∧ Below w.heap.size w w' := by
    intro e1 e2
    have c := refGet_any s at' w hs
    rw [e1] at c
    rw [e2]
    clear e1 e2 hlen
    unfold getV at c
    go_enter Try.func54, Try.ntmps54
    go_wp2_with (go_at_call 53; refine c.mono ?_; rintro e w1 ⟨rfl, hb⟩)
    go_ret3
    exact ⟨ret3 rfl rfl rfl, hb⟩
  by_cases h0 : at' < 0
  · exact none_case (by rw [getAt, if_pos h0]) (by rw [getTextAt, if_pos h0])
  · obtain ⟨a, rfl⟩ : ∃ a : Nat, at' = a := ⟨at'.toNat, by omega⟩
    have ea : (a : Int).toNat = a := by omega
    cases hg : get (s.data.toList.drop a) with
    | none => exact none_case (by rw [getAt, if_neg h0, ea, hg]; rfl) (by rw [getTextAt, if_neg h0, ea, getText, hg]; rfl)
    | some p =>
      obtain ⟨n, k⟩ := p
      obtain ⟨g1, g2, g3, g4, g5⟩ := get_some hg
      rw [List.length_drop, hlen] at g3
      have e1 : getAt s.data.toList (a : Int) = getV a (some (n, k)) := by rw [getAt, if_neg h0, ea, hg]
      have c := refGet_any s (a : Int) w hs
      rw [e1] at c
      unfold getV at c
      by_cases hle : n ≤ s.size - (a + k)
      · have e2 : getTextAt s.data.toList (a : Int) = .tuple #[.string ⟨((s.data.toList.drop (a + k)).take n).toArray⟩, .int .i64 (((a + k : Nat) : Int) + n), .bool true] := by
          rw [getTextAt, if_neg h0, ea, getText, hg]
          simp only
          rw [if_pos (by rw [List.length_drop]; omega), getTextV, List.drop_drop]
          rw [show ((a + (k + n) : Nat) : Int) = ((a + k : Nat) : Int) + n by omega]
        have HE := Lib.hid e2
        have hsl := slice_at s (a + k) (a + k + n) ((a : Int) + (k : Int)) ((a : Int) + (k : Int) + (n : Int)) (by omega) (by omega) (by omega) (by omega)
        rw [show a + k + n - (a + k) = n by omega] at hsl
        have hgt : ¬ (s.size : Int) - ((a : Int) + (k : Int)) < n := by omega
        clear e1 e2 hg g5 hlen none_case ea
        go_enter Try.func54, Try.ntmps54
        go_wp2_with (go_at_call 53; refine c.mono ?_; rintro e w1 ⟨rfl, hb⟩)
        go_ret3
        refine ⟨?_, hb⟩
        rw [HE.out]
        exact ret3 rfl rfl rfl
      · have e2 : getTextAt s.data.toList (a : Int) = getTextV 0 none := by
          rw [getTextAt, if_neg h0, ea, getText, hg]
          simp only
          rw [if_neg (by rw [List.length_drop]; omega)]
          rfl
        have HE := Lib.hid e2
        have hgt : (s.size : Int) - ((a : Int) + (k : Int)) < n := by omega
        clear e1 e2 hg g5 hlen none_case ea
        go_enter Try.func54, Try.ntmps54
        go_wp2_with (go_at_call 53; refine c.mono ?_; rintro e w1 ⟨rfl, hb⟩)
        go_ret3
        refine ⟨?_, hb⟩
        rw [HE.out]
        exact ret3 rfl rfl rfl
end Go.Proofs.Ytanaoepakllohaa
