/- The walks of ints.Get, the texts, and of the reference's. -/
import Derived.Test.YtpcapifjbhaeeaaIntsA
import Derived.Deep.RegionWith
namespace Go.Proofs.Ytpcapifjbhaeeaa
set_option maxRecDepth 16000
open Go.RowKit Spoor

/-- what Get tells of what is got at a place -/
def getV (a : Nat) : Option (Nat × Nat) → Value
  | none => .tuple #[.int .i64 0, .int .i64 0, .bool false]
  | some (n, k) => .tuple #[.int .i64 n, .int .i64 ((a + k : Nat) : Int), .bool true]

theorem byte_at (s : ByteArray) (i : Nat) (h : i < s.size) : s[i] = s.data.toList.getD i 0 := by
  have h' : i < s.data.size := h
  show s.data[i] = (s.data.toList[i]?).getD 0
  rw [Array.getElem?_toList, Array.getElem?_eq_getElem h']
  rfl

theorem bytes_len (s : ByteArray) : s.data.toList.length = s.size := by rw [Array.length_toList]; rfl

theorem drop_at (l : List UInt8) (i : Nat) (h : i < l.length) : l.drop i = l.getD i 0 :: l.drop (i + 1) := by
  rw [List.drop_eq_getElem_cons h]; simp [List.getD, h]

theorem bits_or_i64_nat (a b : Nat) (ha : a < 9223372036854775808) (hb : b < 9223372036854775808) : bits .or .i64 (a : Int) (b : Int) = ((a ||| b : Nat) : Int) := by
  have hx : a ||| b < 2 ^ 63 := Nat.or_lt_two_pow (by omega) (by omega)
  have h1 : (BitVec.ofInt 64 (a : Int)).toNat = a := by
    rw [BitVec.ofInt_natCast, BitVec.toNat_ofNat]; exact Nat.mod_eq_of_lt (by omega)
  have h2 : (BitVec.ofInt 64 (b : Int)).toNat = b := by
    rw [BitVec.ofInt_natCast, BitVec.toNat_ofNat]; exact Nat.mod_eq_of_lt (by omega)
  show IntKind.i64.wrap ((BitVec.ofInt 64 (a : Int) ||| BitVec.ofInt 64 (b : Int)).toNat : Int) = _
  rw [BitVec.toNat_or, h1, h2, IntKind.wrap_i64]
  omega

theorem or_i64 (n : Nat) (d : Nat) (hn : n < 72057594037927936) (hd : d < 256) : bits BinOp.or IntKind.i64 ((n : Int) * 128) (bits BinOp.andNot IntKind.u8 (d : Int) 128) = ((n * 128 + d % 128 : Nat) : Int) := by
  have h1 := andNot128 ⟨d, hd⟩
  simp only at h1
  rw [h1]
  have e : ((n : Int) * 128) = ((n * 128 : Nat) : Int) := by omega
  rw [e, bits_or_i64_nat _ _ (by omega) (by omega), nat_join 7 _ _ (by omega) (by omega)]

theorem index_at (s : ByteArray) (a k : Nat) (h : a + k < s.size) (W : World) : (Instr.index 9 (.string s) (.int .i64 ((a : Int) + (k : Int)))).run Try.prog W = .ok (.int .u8 ((s.data.toList.getD (a + k) 0).toNat : Int)) W := by
  rw [run_index_string _ _ _ _ _ Try.underlying9, dif_pos (by omega)]
  have e : ((a : Int) + (k : Int)).toNat = a + k := by omega
  simp only [e, byte_at]

theorem or_i64' (n : Nat) (d : Nat) (hn : n < 72057594037927936) (hd : d < 256) : bits BinOp.or IntKind.i64 ((n : Int) * 128) (wrap64 (bits BinOp.andNot IntKind.u8 (d : Int) 128)) = ((n * 128 + d % 128 : Nat) : Int) := by
  have h1 := andNot128 ⟨d, hd⟩
  simp only at h1
  have h2 : wrap64 (bits BinOp.andNot IntKind.u8 (d : Int) 128) = bits BinOp.andNot IntKind.u8 (d : Int) 128 := by
    rw [h1]; exact IntWalk.wrap64_in _ (by omega)
  rw [h2, or_i64 n d hn hd]

theorem ret3 {a a' b b' c c' : Value} (h1 : a = a') (h2 : b = b') (h3 : c = c') : Ending.returned (.tuple #[a, b, c]) = Ending.returned (.tuple #[a', b', c']) := by rw [h1, h2, h3]

theorem ret2 {a a' b b' : Value} (h1 : a = a') (h2 : b = b') : Ending.returned (.tuple #[a, b]) = Ending.returned (.tuple #[a', b']) := by rw [h1, h2]

theorem ret1 {a a' : Value} (h1 : a = a') : Ending.returned a = Ending.returned a' := by rw [h1]

theorem int_of {k : IntKind} {a b : Int} (h : a = b) : Value.int k a = .int k b := by rw [h]

theorem take_getD (l : List UInt8) (k : Nat) (h : k < l.length) : l.take (k + 1) = l.take k ++ [l.getD k 0] := by
  rw [List.take_succ_eq_append_getElem h]
  simp [List.getD, h]

/-- ints.Get, at every text and place -/
def getAt (l : List UInt8) (at' : Int) : Value := if at' < 0 then getV 0 none else getV at'.toNat (get (l.drop at'.toNat))

theorem extract_bytes (s : ByteArray) (i j : Nat) : s.extract i j = ⟨((s.data.toList.drop i).take (j - i)).toArray⟩ := by
  have : s = ⟨s.data.toList.toArray⟩ := by simp
  conv => lhs; rw [this]
  exact ByteArray.extract_mk _ _ _

theorem slice_at (s : ByteArray) (i j : Nat) (I J : Int) (hI : I = i) (hJ : J = j) (h1 : i ≤ j) (h2 : j ≤ s.size) (W : World) :
    (Instr.slice 9 (.string s) (some (.int .i64 I)) (some (.int .i64 J)) none).run Try.prog W = .ok (.string ⟨((s.data.toList.drop i).take (j - i)).toArray⟩) W := by
  rw [run_slice_string W _ s .i64 .i64 I J Try.underlying9 (by omega) (by omega) (by omega), extract_bytes]
  have e1 : I.toNat = i := by omega
  have e2 : J.toNat = j := by omega
  rw [e1, e2]

/-- what GetText tells -/
def getTextV (a : Nat) : Option (List UInt8 × Nat) → Value
  | none => .tuple #[.string ⟨#[]⟩, .int .i64 0, .bool false]
  | some (t, k) => .tuple #[.string ⟨t.toArray⟩, .int .i64 ((a + k : Nat) : Int), .bool true]

def getTextAt (l : List UInt8) (at' : Int) : Value := if at' < 0 then getTextV 0 none else getTextV at'.toNat (getText (l.drop at'.toNat))

theorem index_nat (s : ByteArray) (i : Nat) (h : i < s.size) (W : World) : (Instr.index 9 (.string s) (.int .i64 (i : Int))).run Try.prog W = .ok (.int .u8 ((s.data.toList.getD i 0).toNat : Int)) W := by
  rw [run_index_string _ _ _ _ _ Try.underlying9, dif_pos (by omega)]
  have e : (i : Int).toNat = i := by omega
  simp only [e, byte_at]

end Go.Proofs.Ytpcapifjbhaeeaa
