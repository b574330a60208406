/- The walks of ints.Put and of the reference's. The walks of ints.Get, the texts, and of the reference's. The walks of ints.Big, ints.OfBig and of the reference's. -/
import Derived.Test.YtoglloafpnopaaaGreatTA
import Derived.Test.YtoglloafpnopaaaGreatShelf
import Derived.Test.YtoglloafpnopaaaGreatChecked
import Derived.WalkKit
import Derived.WalkSmall
import Derived.Lib.ItoaNum
import Derived.Lib.Hide
import Derived.Deep.RegionWith
set_option linter.unusedSimpArgs false
set_option linter.unusedVariables false
namespace Go.Proofs.YtoglloafpnopaaaGreat
set_option maxRecDepth 16000
open Go.RowKit Spoor
theorem info_u8 : (Tryz.prog.info? 5).map (fun i => (i.zero, i.size, i.bytes)) = some (some (.int .u8 0), 1, 1) := by kernel_rfl
def row (l : List UInt8) : List Value := l.map fun b => .int .u8 b.toNat
theorem row_at (l : List UInt8) (k : Nat) (h : k < l.length) : ∃ v : Int, (row l)[k]? = some (.int .u8 v) := ⟨l[k].toNat, by simp [row, h]⟩
theorem row_set (l : List UInt8) (k : Nat) (b : UInt8) : (row l).set k (.int .u8 b.toNat) = row (l.set k b) := by simp [row]
theorem take_set (l : List UInt8) (k m : Nat) (hl : l.length = m) (h : k < m) :
 (l.take k ++ List.replicate (m - k) 0).set k (l.getD k 0) = l.take (k + 1) ++ List.replicate (m - (k + 1)) 0 := by
 subst hl
 rw [List.set_append_right _ _ (by simp; omega)]
 obtain ⟨r, hr⟩ : ∃ r, l.length - k = r + 1 := ⟨l.length - k - 1, by omega⟩
 have e : (k - (l.take k).length) = 0 := by simp; omega
 rw [hr, e, List.replicate_succ, List.set_cons_zero, List.take_succ_eq_append_getElem h, List.append_assoc]
 congr 1
 have : l.length - (k + 1) = r := by omega
 rw [this]
 simp [List.getD, h]
theorem made_row (n : Nat) : (madeCells (Value.int .u8 0).cells (n * 1)).toList = row (List.replicate n 0) := by
 have := toList_madeCells_one (Value.int .u8 0) n
 simpa [row, Value.cells] using this
theorem or128 : ∀ x : Fin 256, bits BinOp.or IntKind.u8 (x.val : Int) 128 = ((x.val % 128 + 128 : Nat) : Int) := by decide +kernel
theorem digs_or (m n k : Nat) (h : k < m) : bits BinOp.or IntKind.u8 ((n : Int) / 2 ^ (7 * (m - 1 - k)) % 256) 128 = (((digs m n).getD k 0).toNat : Int) := by
 have e : ((n : Int) / 2 ^ (7 * (m - 1 - k)) % 256) = ((n / 2 ^ (7 * (m - 1 - k)) % 256 : Nat) : Int) := by simp
 have h2 := or128 ⟨n / 2 ^ (7 * (m - 1 - k)) % 256, Nat.mod_lt _ (by decide)⟩
 rw [e, h2]
 have h3 : (digs m n).getD k 0 = UInt8.ofNat (n / 128 ^ (m - 1 - k) % 128 + 128) := by simp [digs, List.getD, h]
 rw [h3, pow128]
 simp
 omega
theorem andNot128 : ∀ x : Fin 256, bits BinOp.andNot IntKind.u8 (x.val : Int) 128 = ((x.val % 128 : Nat) : Int) := by decide +kernel
theorem digs_andNot (k n : Nat) (v : Int) (h1 : 1 ≤ k) (h : (row (digs k n))[k - 1]? = some (.int .u8 v)) : bits BinOp.andNot IntKind.u8 v 128 = ((UInt8.ofNat (n % 128)).toNat : Int) := by
 have e : v = ((n % 128 + 128 : Nat) : Int) := by
  have h0 : k - 1 - (k - 1) = 0 := by omega
  have hlt : k - 1 < k := by omega
  simp [row, digs, hlt] at h
  rw [← h]
  simp
  omega
 have := andNot128 ⟨n % 128 + 128, by omega⟩
 rw [e, this]
 simp
 omega
theorem convert_row {P : Program} (w : World) {src e dst t : TypeId} {base g n cap : Nat} {l : List UInt8} (hs : P.underlying src = some (.slice e)) (he : P.underlying e = some (.int .u8)) (hd : P.underlying dst = some .string)
 (hown : w.ownsRow base t 1 (.slice (some ⟨g, 0, none⟩) n cap) n (row l)) : (convert src dst (.slice (some ⟨g, 0, none⟩) n cap)).run P w = .ok (.string ⟨l.toArray⟩) w := by
 have hl : l.length = n := by simpa [row] using hown.1
 have h := run_convert_bytes_arg (P := P) w src e hs he g 0 n cap (l.map fun b => (b.toNat : Int)) (by simpa using hl) (fun i hi => by
  have hc := hown.cellAt i (by omega)
  rw [Nat.zero_add, hc]
  have : i < l.length := by omega
  simp [row, List.getD, this]) dst hd
 have e : strOfNums (l.map fun b => (b.toNat : Int)) = ⟨l.toArray⟩ := by
  unfold strOfNums
  congr 2
  rw [List.map_map]
  conv => rhs; rw [← List.map_id l]
  apply List.map_congr_left
  intro b _
  simp
 rw [h, e]
theorem bitLen_of (n : Nat) (h : n ≤ 9223372036854775807) : n < 2 ^ Lib.bitLen n ∧ (Lib.bitLen n = 0 ∨ 2 ^ (Lib.bitLen n - 1) ≤ n) ∧ Lib.bitLen n ≤ 63 := by
 unfold Lib.bitLen
 by_cases h0 : n = 0
 · subst h0
   rw [Lib.bitLenAux_zero]
   simp
 · obtain ⟨h1, h2, h3⟩ := Lib.bitLenAux_bounds 64 n (by omega) h0
   refine ⟨h3, .inr h2, ?_⟩
   apply Nat.le_of_not_lt
   intro h4
   have h5 : 2 ^ 63 ≤ 2 ^ (Lib.bitLenAux 64 n - 1) := Nat.pow_le_pow_right (by decide) (by omega)
   omega
set_option maxRecDepth 8000 in
theorem put_nat (n : Nat) (w : World) (h : n ≤ 9223372036854775807) :
 Calls Tryz.prog 33 #[.int .i64 n] w fun e w' => e = .returned (.string ⟨(put n).toArray⟩) ∧ Below w.heap.size w w' := by
 obtain ⟨i0, hi, hz0, hz1, hz2⟩ := info_parts info_u8
 obtain ⟨hb1, hb2, hL⟩ := bitLen_of n h
 have H1 := Lib.hid hb1
 have H2 := Lib.hid hb2
 clear hb1 hb2
 obtain ⟨m, hm⟩ : ∃ m, m = many (Lib.bitLen n) := ⟨_, rfl⟩
 have hm1 : 1 ≤ m := by unfold many at hm; omega
 have hm9 : m ≤ 9 := by unfold many at hm; omega
 have hmI : max 1 (((Lib.bitLen n : Int) + 7 - 1) / 7) = (m : Int) := by unfold many at hm; omega
 have HM := Lib.hid hm
 have HI := Lib.hid hmI
 clear hm hmI
 go_enter Tryz.func33, Tryz.ntmps33
 go_wp2_with (first
  | (go_at_call 66; refine (Tryz.bits_Len64 _ _ (by omega) (by omega)).mono ?_; rintro e w' ⟨rfl, rfl⟩)
  | (at_make; rw [HI.out]; refine wpList_make_full _ rfl _ _ _ rfl w'.heap.size 5 i0 (.int .u8 0) 1 Tryz.underlying73 hi hz0 hz1 _ _ _ _ m rfl rfl rfl rfl (by rw [hz2]; omega) (by unfold maxLen; omega) (Nat.le_refl _) ?_; intro w1 hown hgrow))
 have hb := (Below.refl w'.heap.size w').grown hgrow (Nat.le_refl _) (by simp)
 go_wp2
 go_loopw [18] (fun i wr => ∃ k : Nat, k ≤ m ∧ i = .int .i64 k ∧ wr.ownsRow w'.heap.size 5 1 (.slice (some ⟨w'.heap.size, 0, none⟩) m m) m (row ((digs m n).take k ++ List.replicate (m - k) 0)) ∧ Below w'.heap.size w' wr) (fun i _ => m - (intOf i).toNat)
 case atStart => exact ⟨0, Nat.zero_le _, rfl, by rw [made_row] at hown; simpa using hown, hb⟩
 case round =>
  obtain ⟨k, hk, rfl, hown, hb⟩ := hrel
  by_cases hlt : k < m
  · have hc := hown.cellAt k (by omega)
    have hf := hown.frozenAt k
    obtain ⟨v0, hv0⟩ := row_at ((digs m n).take k ++ List.replicate (m - k) 0) k (by simp [digs_length]; omega)
    rw [hv0] at hc
    clear hv0
    go_wp2
    go_roundw
    case rel =>
     refine ⟨k + 1, by omega, by go_num, ?_, hb.setCell (Nat.le_refl _) _⟩
     have h1 := (hown.stored k (.int .u8 ((digs m n).getD k 0).toNat)).1
     rw [row_set, take_set _ k m (digs_length m n) hlt] at h1
     rw [digs_or m n k hlt]
     exact h1
    case measure => simp [intOf]; omega
  · obtain rfl : k = m := by omega
    have hc := hown.cellAt (k - 1) (by omega)
    have hf := hown.frozenAt (k - 1)
    obtain ⟨v0, hv0⟩ := row_at ((digs k n).take k ++ List.replicate (k - k) 0) (k - 1) (by simp [digs_length]; omega)
    rw [hv0] at hc
    obtain ⟨W, hW⟩ : ∃ W, W = wr.setCell ⟨w'.heap.size, k - 1, none⟩ (Value.int IntKind.u8 (bits BinOp.andNot IntKind.u8 v0 128)) := ⟨_, rfl⟩
    have hcv : (convert 73 9 (.slice (some ⟨w'.heap.size, 0, none⟩) k k)).run Tryz.prog W = .ok (.string ⟨(put n).toArray⟩) W := by
     subst hW
     have h1 := (hown.stored (k - 1) (.int .u8 (UInt8.ofNat (n % 128)).toNat)).1
     rw [row_set] at h1
     simp only [Nat.sub_self, List.replicate_zero, List.append_nil] at h1 hv0
     rw [List.take_of_length_le (by rw [digs_length]; exact Nat.le_refl _)] at h1 hv0
     have e : bits BinOp.andNot IntKind.u8 v0 128 = ((UInt8.ofNat (n % 128)).toNat : Int) := digs_andNot k n v0 hm1 hv0
     have e2 : put n = (digs k n).set (k - 1) (UInt8.ofNat (n % 128)) := by
      rw [put_many _ n H1.out H2.out, ← HM.out]
     rw [e, e2]
     exact convert_row _ Tryz.underlying73 Tryz.underlying5 Tryz.underlying9 h1
    subst hW
    have hbW := hb.setCell (p := ⟨w'.heap.size, k - 1, none⟩) (Nat.le_refl _) (Value.int IntKind.u8 (bits BinOp.andNot IntKind.u8 v0 128))
    clear hv0
    go_wp2
    go_ret
    exact ⟨rfl, hbW⟩
def getV (a : Nat) : Option (Nat × Nat) → Value
 | none => .tuple #[.int .i64 0, .int .i64 0, .bool false]
 | some (n, k) => .tuple #[.int .i64 n, .int .i64 ((a + k : Nat) : Int), .bool true]
theorem byte_at (s : ByteArray) (i : Nat) (h : i < s.size) : s[i] = s.data.toList.getD i 0 := by
 have h' : i < s.data.size := h
 show s.data[i] = (s.data.toList[i]?).getD 0
 rw [Array.getElem?_toList, Array.getElem?_eq_getElem h']
 rfl
theorem bytes_len (s : ByteArray) : s.data.toList.length = s.size := by rw [Array.length_toList]; rfl
theorem drop_at (l : List UInt8) (i : Nat) (h : i < l.length) : l.drop i = l.getD i 0 :: l.drop (i + 1) := by
 rw [List.drop_eq_getElem_cons h]; simp [List.getD, h]
theorem bits_or_i64_nat (a b : Nat) (ha : a < 9223372036854775808) (hb : b < 9223372036854775808) : bits .or .i64 (a : Int) (b : Int) = ((a ||| b : Nat) : Int) := by
 have hx : a ||| b < 2 ^ 63 := Nat.or_lt_two_pow (by omega) (by omega)
 have h1 : (BitVec.ofInt 64 (a : Int)).toNat = a := by
  rw [BitVec.ofInt_natCast, BitVec.toNat_ofNat]; exact Nat.mod_eq_of_lt (by omega)
 have h2 : (BitVec.ofInt 64 (b : Int)).toNat = b := by
  rw [BitVec.ofInt_natCast, BitVec.toNat_ofNat]; exact Nat.mod_eq_of_lt (by omega)
 show IntKind.i64.wrap ((BitVec.ofInt 64 (a : Int) ||| BitVec.ofInt 64 (b : Int)).toNat : Int) = _
 rw [BitVec.toNat_or, h1, h2, IntKind.wrap_i64]
 omega
theorem or_i64 (n : Nat) (d : Nat) (hn : n < 72057594037927936) (hd : d < 256) : bits BinOp.or IntKind.i64 ((n : Int) * 128) (bits BinOp.andNot IntKind.u8 (d : Int) 128) = ((n * 128 + d % 128 : Nat) : Int) := by
 have h1 := andNot128 ⟨d, hd⟩
 simp only at h1
 rw [h1]
 have e : ((n : Int) * 128) = ((n * 128 : Nat) : Int) := by omega
 rw [e, bits_or_i64_nat _ _ (by omega) (by omega), nat_join 7 _ _ (by omega) (by omega)]
theorem index_at (s : ByteArray) (a k : Nat) (h : a + k < s.size) (W : World) : (Instr.index 9 (.string s) (.int .i64 ((a : Int) + (k : Int)))).run Tryz.prog W = .ok (.int .u8 ((s.data.toList.getD (a + k) 0).toNat : Int)) W := by
 rw [run_index_string _ _ _ _ _ Tryz.underlying9, dif_pos (by omega)]
 have e : ((a : Int) + (k : Int)).toNat = a + k := by omega
 simp only [e, byte_at]
theorem or_i64' (n : Nat) (d : Nat) (hn : n < 72057594037927936) (hd : d < 256) : bits BinOp.or IntKind.i64 ((n : Int) * 128) (wrap64 (bits BinOp.andNot IntKind.u8 (d : Int) 128)) = ((n * 128 + d % 128 : Nat) : Int) := by
 have h1 := andNot128 ⟨d, hd⟩
 simp only at h1
 have h2 : wrap64 (bits BinOp.andNot IntKind.u8 (d : Int) 128) = bits BinOp.andNot IntKind.u8 (d : Int) 128 := by
  rw [h1]; exact IntWalk.wrap64_in _ (by omega)
 rw [h2, or_i64 n d hn hd]
theorem ret3 {a a' b b' c c' : Value} (h1 : a = a') (h2 : b = b') (h3 : c = c') : Ending.returned (.tuple #[a, b, c]) = Ending.returned (.tuple #[a', b', c']) := by rw [h1, h2, h3]
theorem ret2 {a a' b b' : Value} (h1 : a = a') (h2 : b = b') : Ending.returned (.tuple #[a, b]) = Ending.returned (.tuple #[a', b']) := by rw [h1, h2]
theorem ret1 {a a' : Value} (h1 : a = a') : Ending.returned a = Ending.returned a' := by rw [h1]
theorem int_of {k : IntKind} {a b : Int} (h : a = b) : Value.int k a = .int k b := by rw [h]
theorem take_getD (l : List UInt8) (k : Nat) (h : k < l.length) : l.take (k + 1) = l.take k ++ [l.getD k 0] := by
 rw [List.take_succ_eq_append_getElem h]
 simp [List.getD, h]
theorem get_out (s : ByteArray) (at' : Int) (w : World) (hs : s.size ≤ maxLen) (h : at' < 0 ∨ s.size ≤ at') :
 Calls Tryz.prog 71 #[.string s, .int .i64 at'] w fun e w' => e = .returned (getV 0 none) ∧ w = w' := by
 unfold maxLen at hs
 rcases h with h | h
 · go_enter Tryz.func71, Tryz.ntmps71
   go_wp2
   go_ret3
   exact ⟨rfl, rfl⟩
 · have h0 : ¬ at' < 0 := by omega
   go_enter Tryz.func71, Tryz.ntmps71
   go_wp2
   go_ret3
   exact ⟨rfl, rfl⟩
theorem get_flag (s : ByteArray) (a : Nat) (w : World) (h : a < s.size) (h1 : (s[a].toNat : Int) = 128) :
 Calls Tryz.prog 71 #[.string s, .int .i64 a] w fun e w' => e = .returned (getV 0 none) ∧ w = w' := by
 have h0 : ¬ (a : Int) < 0 := by omega
 have h2 : ((s[a].toNat : Int) == 128) = true := by simpa using h1
 have h3 : ¬ s.size ≤ a := by omega
 clear h1
 go_enter Tryz.func71, Tryz.ntmps71
 go_wp2
 go_ret3
 exact ⟨rfl, rfl⟩
theorem get_in (s : ByteArray) (a : Nat) (w : World) (hs : s.size ≤ maxLen) (h : a < s.size) (h1 : (s[a].toNat : Int) ≠ 128) :
 Calls Tryz.prog 71 #[.string s, .int .i64 a] w fun e w' => e = .returned (getV a (get (s.data.toList.drop a))) ∧ w = w' := by
 unfold maxLen at hs
 have hlen := bytes_len s
 have hget : get (s.data.toList.drop a) = scan 9 0 (s.data.toList.drop a) := by
  rw [drop_at _ a (by omega), Spoor.get, if_neg]
  rw [← byte_at s a h]
  omega
 rw [hget]
 clear hget
 have HLen := Lib.hid hlen
 have h0 : ¬ (a : Int) < 0 := by omega
 have h2 : ((s[a].toNat : Int) == 128) = false := by simpa using h1
 have h3 : ¬ s.size ≤ a := by omega
 obtain ⟨m, hm⟩ : ∃ m, m = min 9 (s.size - a) := ⟨_, rfl⟩
 have hm1 : 1 ≤ m := by omega
 have hm9 : m ≤ 9 := by omega
 have hms : a + m ≤ s.size := by omega
 have HI : Hid (min (9 : Int) ((s.size : Int) - (a : Int)) = (m : Int)) := by show _ = _; omega
 have HM : Hid (m = 9 ∨ a + m = s.size) := by show _ ∨ _; omega
 clear h1 hm hlen
 go_enter Tryz.func71, Tryz.ntmps71
 go_wp2
 rw [HI.out]
 go_loop [4, 28] (fun v i => ∃ k acc : Nat, k ≤ m ∧ acc < 128 ^ k ∧ i = .int .i64 k ∧ v = .int .i64 acc ∧ Hid (scan 9 0 (s.data.toList.drop a) = (scan (9 - k) acc (s.data.toList.drop (a + k))).map fun p => (p.1, p.2 + k))) (fun _ i => m - (intOf i).toNat)
 case atStart => exact ⟨0, 0, by omega, by simp, rfl, rfl, by show _ = _; simp⟩
 case round =>
  obtain ⟨k, acc, hk, hacc, rfl, rfl, hsc⟩ := hrel
  by_cases hlt : k < m
  · have hacc7 : acc < 72057594037927936 := by
     have : 128 ^ k ≤ 128 ^ 8 := Nat.pow_le_pow_right (by decide) (by omega)
     omega
    have hks : a + k < s.size := by omega
    have hidx := index_at s a k hks
    have hb8 := (s.data.toList.getD (a + k) 0).toNat_lt
    have hst := hsc.out
    rw [drop_at _ (a + k) (by rw [HLen.out]; omega), show 9 - k = (9 - (k + 1)) + 1 by omega, scan] at hst
    generalize (s.data.toList.getD (a + k) 0).toNat = c at hidx hb8 hst
    have Hst := Lib.hid hst
    have Hacc := Lib.hid hacc
    clear hst hacc
    by_cases hc : (c : Int) < 128
    · go_wp2
      go_ret3
      have e : scan 9 0 (s.data.toList.drop a) = some (acc * 128 + c, 1 + k) := by rw [Hst.out, if_pos (by omega)]; rfl
      refine ⟨?_, rfl⟩
      rw [e]
      exact ret3 (int_of (by rw [or_i64' acc c hacc7 (by omega)]; omega)) (int_of (by omega)) rfl
    · go_wp2
      go_round
      case rel =>
       refine ⟨k + 1, acc * 128 + c % 128, by omega, ?_, by go_num, by rw [or_i64' acc c hacc7 (by omega)], ?_⟩
       · have := Hacc.out; rw [Nat.pow_succ]; omega
       · show _ = _
         rw [Hst.out, if_neg (by omega), Option.map_map, Nat.add_assoc]
         congr 1
         funext p
         simp only [Function.comp_apply, Prod.mk.injEq, true_and]
         omega
      case measure => simp [intOf]; omega
  · obtain rfl : k = m := by omega
    have e : scan 9 0 (s.data.toList.drop a) = none := by
     rw [hsc.out]
     rcases HM.out with h9 | h9
     · subst h9; rfl
     · rw [h9, List.drop_of_length_le (by rw [HLen.out]; exact Nat.le_refl _)]
       cases 9 - k <;> rfl
    have He := Lib.hid e
    clear e
    go_wp2
    go_ret3
    refine ⟨?_, rfl⟩
    rw [He.out]
    exact ret3 rfl rfl rfl
def getAt (l : List UInt8) (at' : Int) : Value := if at' < 0 then getV 0 none else getV at'.toNat (get (l.drop at'.toNat))
theorem get_any (s : ByteArray) (at' : Int) (w : World) (hs : s.size ≤ maxLen) :
 Calls Tryz.prog 71 #[.string s, .int .i64 at'] w fun e w' => e = .returned (getAt s.data.toList at') ∧ w = w' := by
 have hlen := bytes_len s
 by_cases h0 : at' < 0
 · have e : getAt s.data.toList at' = getV 0 none := by rw [getAt, if_pos h0]
   rw [e]
   exact get_out s at' w hs (.inl h0)
 · obtain ⟨a, rfl⟩ : ∃ a : Nat, at' = a := ⟨at'.toNat, by omega⟩
   have e : getAt s.data.toList (a : Int) = getV a (get (s.data.toList.drop a)) := by rw [getAt, if_neg h0]; rfl
   rw [e]
   by_cases h1 : a < s.size
   · by_cases h2 : (s[a].toNat : Int) = 128
     · have e2 : get (s.data.toList.drop a) = none := by
        rw [drop_at _ a (by omega), Spoor.get, if_pos]
        rw [← byte_at s a h1]; omega
       rw [e2]
       exact get_flag s a w h1 h2
     · exact get_in s a w hs h1 h2
   · rw [List.drop_of_length_le (by omega)]
     exact get_out s a w hs (.inr (by omega))
theorem putText_any (s : ByteArray) (w : World) (hs : s.size ≤ 140737488355328) :
 Calls Tryz.prog 36 #[.string s] w fun e w' => e = .returned (.string ⟨(putText s.data.toList).toArray⟩) ∧ Below w.heap.size w w' := by
 have hlen := bytes_len s
 have h9 := put_length9 s.size (by omega)
 have e : (⟨(putText s.data.toList).toArray⟩ : ByteArray) = ⟨(put s.size).toArray⟩ ++ s := by
  rw [putText, hlen]
  exact (ByteArray.mk_append_mk (put s.size) s.data.toList).symm
 have He := Lib.hid e
 clear hlen e
 go_enter Tryz.func36, Tryz.ntmps36
 go_wp2_with (go_at_call 33; refine (put_nat s.size _ (by omega)).mono ?_; rintro e w1 ⟨rfl, hb⟩)
 go_ret
 exact ⟨ret1 (by rw [He.out]; rfl), hb⟩
theorem extract_bytes (s : ByteArray) (i j : Nat) : s.extract i j = ⟨((s.data.toList.drop i).take (j - i)).toArray⟩ := by
 have : s = ⟨s.data.toList.toArray⟩ := by simp
 conv => lhs; rw [this]
 exact ByteArray.extract_mk _ _ _
theorem slice_at (s : ByteArray) (i j : Nat) (I J : Int) (hI : I = i) (hJ : J = j) (h1 : i ≤ j) (h2 : j ≤ s.size) (W : World) :
 (Instr.slice 9 (.string s) (some (.int .i64 I)) (some (.int .i64 J)) none).run Tryz.prog W = .ok (.string ⟨((s.data.toList.drop i).take (j - i)).toArray⟩) W := by
 rw [run_slice_string W _ s .i64 .i64 I J Tryz.underlying9 (by omega) (by omega) (by omega), extract_bytes]
 have e1 : I.toNat = i := by omega
 have e2 : J.toNat = j := by omega
 rw [e1, e2]
def getTextV (a : Nat) : Option (List UInt8 × Nat) → Value
 | none => .tuple #[.string ⟨#[]⟩, .int .i64 0, .bool false]
 | some (t, k) => .tuple #[.string ⟨t.toArray⟩, .int .i64 ((a + k : Nat) : Int), .bool true]
def getTextAt (l : List UInt8) (at' : Int) : Value := if at' < 0 then getTextV 0 none else getTextV at'.toNat (getText (l.drop at'.toNat))
theorem getText_any (s : ByteArray) (at' : Int) (w : World) (hs : s.size ≤ maxLen) :
 Calls Tryz.prog 72 #[.string s, .int .i64 at'] w fun e w' => e = .returned (getTextAt s.data.toList at') ∧ w = w' := by
 have hlen := bytes_len s
 have hs' := hs
 unfold maxLen at hs'
 have none_case : getAt s.data.toList at' = getV 0 none → getTextAt s.data.toList at' = getTextV 0 none → Calls Tryz.prog 72 #[.string s, .int .i64 at'] w fun e w' => e = .returned (getTextAt s.data.toList at') ∧ w = w' := by
  intro e1 e2
  have c := get_any s at' w hs
  rw [e1] at c
  rw [e2]
  clear e1 e2 hlen
  unfold getV at c
  go_enter Tryz.func72, Tryz.ntmps72
  go_wp2_with (go_at_call 71; refine c.mono ?_; rintro e w1 ⟨rfl, rfl⟩)
  go_ret3
  exact ⟨ret3 rfl rfl rfl, rfl⟩
 by_cases h0 : at' < 0
 · exact none_case (by rw [getAt, if_pos h0]) (by rw [getTextAt, if_pos h0])
 · obtain ⟨a, rfl⟩ : ∃ a : Nat, at' = a := ⟨at'.toNat, by omega⟩
   have ea : (a : Int).toNat = a := by omega
   cases hg : get (s.data.toList.drop a) with
   | none => exact none_case (by rw [getAt, if_neg h0, ea, hg]; rfl) (by rw [getTextAt, if_neg h0, ea, getText, hg]; rfl)
   | some p =>
     obtain ⟨n, k⟩ := p
     obtain ⟨g1, g2, g3, g4, g5⟩ := get_some hg
     rw [List.length_drop, hlen] at g3
     have e1 : getAt s.data.toList (a : Int) = getV a (some (n, k)) := by rw [getAt, if_neg h0, ea, hg]
     have c := get_any s (a : Int) w hs
     rw [e1] at c
     unfold getV at c
     by_cases hle : n ≤ s.size - (a + k)
     · have e2 : getTextAt s.data.toList (a : Int) = .tuple #[.string ⟨((s.data.toList.drop (a + k)).take n).toArray⟩, .int .i64 (((a + k : Nat) : Int) + n), .bool true] := by
        rw [getTextAt, if_neg h0, ea, getText, hg]
        simp only
        rw [if_pos (by rw [List.length_drop]; omega), getTextV, List.drop_drop]
        rw [show ((a + (k + n) : Nat) : Int) = ((a + k : Nat) : Int) + n by omega]
       have HE := Lib.hid e2
       have hsl := slice_at s (a + k) (a + k + n) ((a : Int) + (k : Int)) ((a : Int) + (k : Int) + (n : Int)) (by omega) (by omega) (by omega) (by omega)
       rw [show a + k + n - (a + k) = n by omega] at hsl
       have hgt : ¬ (s.size : Int) - ((a : Int) + (k : Int)) < n := by omega
       clear e1 e2 hg g5 hlen none_case ea
       go_enter Tryz.func72, Tryz.ntmps72
       go_wp2_with (go_at_call 71; refine c.mono ?_; rintro e w1 ⟨rfl, rfl⟩)
       go_ret3
       refine ⟨?_, rfl⟩
       rw [HE.out]
       exact ret3 rfl rfl rfl
     · have e2 : getTextAt s.data.toList (a : Int) = getTextV 0 none := by
        rw [getTextAt, if_neg h0, ea, getText, hg]
        simp only
        rw [if_neg (by rw [List.length_drop]; omega)]
        rfl
       have HE := Lib.hid e2
       have hgt : (s.size : Int) - ((a : Int) + (k : Int)) < n := by omega
       clear e1 e2 hg g5 hlen none_case ea
       go_enter Tryz.func72, Tryz.ntmps72
       go_wp2_with (go_at_call 71; refine c.mono ?_; rintro e w1 ⟨rfl, rfl⟩)
       go_ret3
       refine ⟨?_, rfl⟩
       rw [HE.out]
       exact ret3 rfl rfl rfl
theorem index_nat (s : ByteArray) (i : Nat) (h : i < s.size) (W : World) : (Instr.index 9 (.string s) (.int .i64 (i : Int))).run Tryz.prog W = .ok (.int .u8 ((s.data.toList.getD i 0).toNat : Int)) W := by
 rw [run_index_string _ _ _ _ _ Tryz.underlying9, dif_pos (by omega)]
 have e : (i : Int).toNat = i := by omega
 simp only [e, byte_at]
theorem drop_set (l : List UInt8) (j k : Nat) (hl : l.length = k) (h : j < k) :
 (List.replicate (j + 1) 0 ++ l.drop (j + 1)).set j (l.getD j 0) = List.replicate j 0 ++ l.drop j := by
 subst hl
 rw [List.replicate_succ', List.append_assoc, List.set_append_right _ _ (by simp)]
 rw [List.drop_eq_getElem_cons h]
 simp [List.getD, h]
theorem bigK_byte (k n j : Nat) (h : j < k) : (n : Int) / 2 ^ (8 * (k - 1 - j)) % 256 = (((bigK k n).getD j 0).toNat : Int) := by
 rw [bigK_at k n j h]
 have e : ((n : Int) / 2 ^ (8 * (k - 1 - j)) % 256) = ((n / 2 ^ (8 * (k - 1 - j)) % 256 : Nat) : Int) := by simp
 have e2 : (256 : Nat) ^ (k - 1 - j) = 2 ^ (8 * (k - 1 - j)) := by rw [Nat.pow_mul]
 rw [e, e2]
 simp
theorem big_nat (n : Nat) (w : World) (_h : n ≤ 9223372036854775807) :
 Calls Tryz.prog 38 #[.int .i64 n] w fun e w' => e = .returned (.string ⟨(big n).toArray⟩) ∧ Below w.heap.size w w' := by
 go_enter Tryz.func38, Tryz.ntmps38
 go_wp2
 go_loopw [7] (fun i wr => ∃ k : Nat, k ≤ 8 ∧ i = .int .i64 k ∧ wr.ownsRow w.heap.size 124 1 (.slice (some ⟨w.heap.size, 0, none⟩) 8 8) 8 (row (List.replicate (8 - k) 0 ++ (big n).drop (8 - k))) ∧ Below w.heap.size w wr) (fun i _ => 8 - (intOf i).toNat)
 case atStart =>
  refine ⟨0, by omega, rfl, ?_, (Below.refl _ _).alloc (Nat.le_refl _) _⟩
  rw [List.drop_of_length_le (by rw [big_length]; exact Nat.le_refl _)]
  exact World.ownsRow_lit w #[.int .u8 0, .int .u8 0, .int .u8 0, .int .u8 0, .int .u8 0, .int .u8 0, .int .u8 0, .int .u8 0] 8 (Nat.le_refl _) (by decide) rfl
 case round =>
  obtain ⟨k, hk, rfl, hown, hb⟩ := hrel
  by_cases hlt : k < 8
  · have hc := hown.cellAt (7 - k) (by omega)
    have hf := hown.frozenAt (7 - k)
    obtain ⟨v0, hv0⟩ := row_at (List.replicate (8 - k) 0 ++ (big n).drop (8 - k)) (7 - k) (by simp [big_length]; omega)
    rw [hv0] at hc
    clear hv0
    go_wp2
    go_roundw
    case rel =>
     refine ⟨k + 1, by omega, by go_num, ?_, hb.setCell (Nat.le_refl _) _⟩
     have h1 := (hown.stored (7 - k) (.int .u8 ((big n).getD (7 - k) 0).toNat)).1
     have e := bigK_byte 8 n (7 - k) (by omega)
     rw [show 8 - 1 - (7 - k) = k by omega] at e
     rw [row_set, show 8 - k = 7 - k + 1 by omega, drop_set _ _ 8 (big_length n) (by omega), big, ← e] at h1
     rw [show 8 - (k + 1) = 7 - k by omega]
     exact h1
    case measure => simp [intOf]; omega
  · obtain rfl : k = 8 := by omega
    have hcv := convert_row wr Tryz.underlying73 Tryz.underlying5 Tryz.underlying9 hown
    simp only [Nat.sub_self, List.replicate_zero, List.nil_append, List.drop_zero] at hcv
    go_wp2
    go_ret
    exact ⟨rfl, hb⟩
theorem or_u64 (n d : Nat) (hn : n < 72057594037927936) (hd : d < 256) : bits BinOp.or IntKind.u64 ((n : Int) * 256) (d : Int) = ((n * 256 + d : Nat) : Int) := by
 have e : ((n : Int) * 256) = ((n * 256 : Nat) : Int) := by omega
 rw [e, bits_or_u64_nat _ _ (by omega) (by omega), nat_join 8 _ _ (by omega) (by omega)]
theorem ofBig_out (s : ByteArray) (at' : Int) (w : World) (hs : s.size ≤ maxLen) (h : at' < 0 ∨ (s.size : Int) - 8 < at') :
 Calls Tryz.prog 41 #[.string s, .int .i64 at'] w fun e w' => e = .returned (.tuple #[.int .i64 0, .bool false]) ∧ w = w' := by
 unfold maxLen at hs
 rcases h with h | h
 · go_enter Tryz.func41, Tryz.ntmps41
   go_wp2
   go_ret2
   exact ⟨rfl, rfl⟩
 · by_cases h0 : at' < 0
   · go_enter Tryz.func41, Tryz.ntmps41
     go_wp2
     go_ret2
     exact ⟨rfl, rfl⟩
   · go_enter Tryz.func41, Tryz.ntmps41
     go_wp2
     go_ret2
     exact ⟨rfl, rfl⟩
def ofBigV : Option Nat → Value
 | none => .tuple #[.int .i64 0, .bool false]
 | some n => .tuple #[.int .i64 n, .bool true]
theorem ofBig_in (s : ByteArray) (a : Nat) (w : World) (hs : s.size ≤ maxLen) (h : a + 8 ≤ s.size) :
 Calls Tryz.prog 41 #[.string s, .int .i64 a] w fun e w' => e = .returned (ofBigV (ofBig (s.data.toList.drop a))) ∧ w = w' := by
 unfold maxLen at hs
 have hlen := bytes_len s
 have HLen := Lib.hid hlen
 clear hlen
 have h0 : ¬ (a : Int) < 0 := by omega
 have h1 : ¬ (s.size : Int) - 8 < (a : Int) := by omega
 go_enter Tryz.func41, Tryz.ntmps41
 go_wp2
 go_loop [6, 17] (fun v i => ∃ k acc : Nat, k ≤ 8 ∧ acc < 256 ^ k ∧ i = .int .i64 k ∧ v = .int .u64 acc ∧ Hid (acc = val256 0 ((s.data.toList.drop a).take k))) (fun _ i => 8 - (intOf i).toNat)
 case atStart => exact ⟨0, 0, by omega, by simp, rfl, rfl, rfl⟩
 case round =>
  obtain ⟨k, acc, hk, hacc, rfl, rfl, hv⟩ := hrel
  by_cases hlt : k < 8
  · have hidx := index_at s a k (by omega)
    have hb8 := (s.data.toList.getD (a + k) 0).toNat_lt
    have hacc7 : acc < 72057594037927936 := by
     have : 256 ^ k ≤ 256 ^ 7 := Nat.pow_le_pow_right (by decide) (by omega)
     omega
    have hst : val256 0 ((s.data.toList.drop a).take (k + 1)) = acc * 256 + (s.data.toList.getD (a + k) 0).toNat := by
     rw [take_getD _ k (by rw [List.length_drop, HLen.out]; omega), val256_snoc, ← hv.out]
     simp [List.getD, List.getElem?_drop]
    generalize (s.data.toList.getD (a + k) 0).toNat = c at hidx hb8 hst
    have Hst := Lib.hid hst
    have Hacc := Lib.hid hacc
    clear hst hacc
    go_wp2
    go_round
    case rel =>
     refine ⟨k + 1, acc * 256 + c, by omega, ?_, by go_num, by rw [or_u64 acc c hacc7 (by omega)], Hst.out.symm⟩
     have := Hacc.out
     rw [Nat.pow_succ]
     omega
    case measure => simp [intOf]; omega
  · obtain rfl : k = 8 := by omega
    have e : ofBig (s.data.toList.drop a) = if acc < 9223372036854775808 then some acc else none := by
     rw [ofBig, if_neg (by rw [List.length_drop, HLen.out]; omega), ← hv.out]
    by_cases h63 : acc < 9223372036854775808
    · rw [if_pos h63] at e
      have He := Lib.hid e
      clear e
      go_wp2
      go_ret2
      refine ⟨?_, rfl⟩
      rw [He.out]
      exact ret2 rfl rfl
    · rw [if_neg h63] at e
      have He := Lib.hid e
      clear e
      go_wp2
      go_ret2
      refine ⟨?_, rfl⟩
      rw [He.out]
      exact ret2 rfl rfl
def ofBigAt (l : List UInt8) (at' : Int) : Value := if at' < 0 then ofBigV none else ofBigV (ofBig (l.drop at'.toNat))
theorem ofBig_any (s : ByteArray) (at' : Int) (w : World) (hs : s.size ≤ maxLen) :
 Calls Tryz.prog 41 #[.string s, .int .i64 at'] w fun e w' => e = .returned (ofBigAt s.data.toList at') ∧ w = w' := by
 have hlen := bytes_len s
 by_cases h0 : at' < 0
 · have e : ofBigAt s.data.toList at' = ofBigV none := by rw [ofBigAt, if_pos h0]
   rw [e]
   exact ofBig_out s at' w hs (.inl h0)
 · obtain ⟨a, rfl⟩ : ∃ a : Nat, at' = a := ⟨at'.toNat, by omega⟩
   have e : ofBigAt s.data.toList (a : Int) = ofBigV (ofBig (s.data.toList.drop a)) := by rw [ofBigAt, if_neg h0]; rfl
   rw [e]
   by_cases h1 : a + 8 ≤ s.size
   · exact ofBig_in s a w hs h1
   · have e2 : ofBig (s.data.toList.drop a) = none := by rw [ofBig, if_pos (by rw [List.length_drop]; omega)]
     rw [e2]
     exact ofBig_out s a w hs (.inr (by omega))
theorem refOfBig_out (s : ByteArray) (at' : Int) (w : World) (hs : s.size ≤ maxLen) (h : at' < 0 ∨ (s.size : Int) - 8 < at') :
 Calls Tryz.prog 105 #[.string s, .int .i64 at'] w fun e w' => e = .returned (ofBigV none) ∧ w = w' := by
 unfold maxLen at hs
 rcases h with h | h
 · go_enter Tryz.func105, Tryz.ntmps105
   go_wp2
   go_ret2
   exact ⟨rfl, rfl⟩
 · by_cases h0 : at' < 0
   · go_enter Tryz.func105, Tryz.ntmps105
     go_wp2
     go_ret2
     exact ⟨rfl, rfl⟩
   · go_enter Tryz.func105, Tryz.ntmps105
     go_wp2
     go_ret2
     exact ⟨rfl, rfl⟩
set_option maxRecDepth 100000 in
theorem refOfBig_in (s : ByteArray) (a : Nat) (w : World) (hs : s.size ≤ maxLen) (h : a + 8 ≤ s.size) :
 Calls Tryz.prog 105 #[.string s, .int .i64 a] w fun e w' => e = .returned (ofBigV (ofBig (s.data.toList.drop a))) ∧ w = w' := by
 unfold maxLen at hs
 have hlen := bytes_len s
 have h0 : ¬ (a : Int) < 0 := by omega
 have h1 : ¬ (s.size : Int) - 8 < (a : Int) := by omega
 have hidx := index_nat s a (by omega)
 have hb8 := (s.data.toList.getD a 0).toNat_lt
 have htop := top_byte (s.data.toList.drop a) (by rw [List.length_drop]; omega)
 rw [show ((s.data.toList.drop a).getD 0 0) = s.data.toList.getD a 0 by simp [List.getD, List.getElem?_drop]] at htop
 generalize (s.data.toList.getD a 0).toNat = c at hidx hb8 htop
 have HLen := Lib.hid hlen
 have Htop := Lib.hid htop
 clear hlen htop
 by_cases hc : 128 ≤ (c : Int)
 · have e : ofBig (s.data.toList.drop a) = none := by
    have := Htop.out
    rw [ofBig, if_neg (by rw [List.length_drop, HLen.out]; omega), if_neg (by omega)]
   have He := Lib.hid e
   clear e
   go_enter Tryz.func105, Tryz.ntmps105
   go_wp2
   go_ret2
   refine ⟨?_, rfl⟩
   rw [He.out]
   exact ret2 rfl rfl
 · go_enter Tryz.func105, Tryz.ntmps105
   go_wp2
   clear hidx hb8
   have Hc := Lib.hid hc
   clear hc
   go_loop [6, 7] (fun v i => ∃ k acc : Nat, k ≤ 8 ∧ acc ≤ 9223372036854775807 ∧ acc < 256 ^ k ∧ i = .int .i64 ((a : Int) + (k : Int)) ∧ v = .int .i64 acc ∧ Hid (acc = val256 0 ((s.data.toList.drop a).take k))) (fun _ i => a + 8 - (intOf i).toNat)
   case atStart => exact ⟨0, 0, by omega, by omega, by simp, by go_num, rfl, rfl⟩
   case round =>
    obtain ⟨k, acc, hk, hacc9, hacc, rfl, rfl, hv⟩ := hrel
    by_cases hlt : k < 8
    · have hidx := index_at s a k (by omega)
      have hb9 := (s.data.toList.getD (a + k) 0).toNat_lt
      have hst : val256 0 ((s.data.toList.drop a).take (k + 1)) = acc * 256 + (s.data.toList.getD (a + k) 0).toNat := by
       rw [take_getD _ k (by rw [List.length_drop, HLen.out]; omega), val256_snoc, ← hv.out]
       simp [List.getD, List.getElem?_drop]
      generalize (s.data.toList.getD (a + k) 0).toNat = d at hidx hb9 hst
      have hnew : acc * 256 + d ≤ 9223372036854775807 := by
       by_cases h7 : k = 7
       · subst h7
         have h8 : val256 0 ((s.data.toList.drop a).take 8) = acc * 256 + d := hst
         have := Htop.out
         have := Hc.out
         omega
       · have : 256 ^ k ≤ 256 ^ 6 := Nat.pow_le_pow_right (by decide) (by omega)
         omega
      have Hst := Lib.hid hst
      have Hacc := Lib.hid hacc
      clear hst hacc
      go_wp2
      go_round
      case rel =>
       refine ⟨k + 1, acc * 256 + d, by omega, hnew, ?_, by go_num, by go_num, Hst.out.symm⟩
       have := Hacc.out
       rw [Nat.pow_succ]
       omega
      case measure => simp [intOf]; omega
    · obtain rfl : k = 8 := by omega
      have e : ofBig (s.data.toList.drop a) = some acc := by
       rw [ofBig, if_neg (by rw [List.length_drop, HLen.out]; omega), ← hv.out, if_pos (by omega)]
      have He := Lib.hid e
      clear e hacc
      go_wp2
      go_ret2
      refine ⟨?_, rfl⟩
      rw [He.out]
      exact ret2 rfl rfl
theorem refOfBig_any (s : ByteArray) (at' : Int) (w : World) (hs : s.size ≤ maxLen) :
 Calls Tryz.prog 105 #[.string s, .int .i64 at'] w fun e w' => e = .returned (ofBigAt s.data.toList at') ∧ w = w' := by
 have hlen := bytes_len s
 by_cases h0 : at' < 0
 · have e : ofBigAt s.data.toList at' = ofBigV none := by rw [ofBigAt, if_pos h0]
   rw [e]
   exact refOfBig_out s at' w hs (.inl h0)
 · obtain ⟨a, rfl⟩ : ∃ a : Nat, at' = a := ⟨at'.toNat, by omega⟩
   have e : ofBigAt s.data.toList (a : Int) = ofBigV (ofBig (s.data.toList.drop a)) := by rw [ofBigAt, if_neg h0]; rfl
   rw [e]
   by_cases h1 : a + 8 ≤ s.size
   · exact refOfBig_in s a w hs h1
   · have e2 : ofBig (s.data.toList.drop a) = none := by rw [ofBig, if_pos (by rw [List.length_drop]; omega)]
     rw [e2]
     exact refOfBig_out s a w hs (.inr (by omega))
end Go.Proofs.YtoglloafpnopaaaGreat
