/- The walks of ints.Put and of the reference's. -/
import Derived.Test.YtanaoepakllohaaShelf
import Derived.Test.YtanaoepakllohaaChecked
import Derived.Test.YtanaoepakllohaaInts0
import Derived.WalkKit
import Derived.WalkSmall
import Derived.Lib.ItoaNum
import Derived.Lib.Hide
namespace Go.Proofs.Ytanaoepakllohaa
set_option maxRecDepth 16000
open Go.RowKit Spoor

theorem info_u8 : (Try.prog.info? 5).map (fun i => (i.zero, i.size, i.bytes)) = some (some (.int .u8 0), 1, 1) := by kernel_rfl

/-- bytes as a row of cells -/
def row (l : List UInt8) : List Value := l.map fun b => .int .u8 b.toNat

theorem row_at (l : List UInt8) (k : Nat) (h : k < l.length) : ∃ v : Int, (row l)[k]? = some (.int .u8 v) := ⟨l[k].toNat, by simp [row, h]⟩

theorem row_set (l : List UInt8) (k : Nat) (b : UInt8) : (row l).set k (.int .u8 b.toNat) = row (l.set k b) := by simp [row]

theorem take_set (l : List UInt8) (k m : Nat) (hl : l.length = m) (h : k < m) :
    (l.take k ++ List.replicate (m - k) 0).set k (l.getD k 0) = l.take (k + 1) ++ List.replicate (m - (k + 1)) 0 := by
  subst hl
  rw [List.set_append_right _ _ (by simp; omega)]
  obtain ⟨r, hr⟩ : ∃ r, l.length - k = r + 1 := ⟨l.length - k - 1, by omega⟩
  have e : (k - (l.take k).length) = 0 := by simp; omega
  rw [hr, e, List.replicate_succ, List.set_cons_zero, List.take_succ_eq_append_getElem h, List.append_assoc]
  congr 1
  have : l.length - (k + 1) = r := by omega
  rw [this]
  simp [List.getD, h]

theorem made_row (n : Nat) : (madeCells (Value.int .u8 0).cells (n * 1)).toList = row (List.replicate n 0) := by
  have := toList_madeCells_one (Value.int .u8 0) n
  simpa [row, Value.cells] using this

theorem or128 : ∀ x : Fin 256, bits BinOp.or IntKind.u8 (x.val : Int) 128 = ((x.val % 128 + 128 : Nat) : Int) := by decide +kernel

theorem digs_or (m n k : Nat) (h : k < m) : bits BinOp.or IntKind.u8 ((n : Int) / 2 ^ (7 * (m - 1 - k)) % 256) 128 = (((digs m n).getD k 0).toNat : Int) := by
  have e : ((n : Int) / 2 ^ (7 * (m - 1 - k)) % 256) = ((n / 2 ^ (7 * (m - 1 - k)) % 256 : Nat) : Int) := by simp
  have h2 := or128 ⟨n / 2 ^ (7 * (m - 1 - k)) % 256, Nat.mod_lt _ (by decide)⟩
  rw [e, h2]
  have h3 : (digs m n).getD k 0 = UInt8.ofNat (n / 128 ^ (m - 1 - k) % 128 + 128) := by simp [digs, List.getD, h]
  rw [h3, pow128]
  simp
  omega

theorem andNot128 : ∀ x : Fin 256, bits BinOp.andNot IntKind.u8 (x.val : Int) 128 = ((x.val % 128 : Nat) : Int) := by decide +kernel

theorem digs_andNot (k n : Nat) (v : Int) (h1 : 1 ≤ k) (h : (row (digs k n))[k - 1]? = some (.int .u8 v)) : bits BinOp.andNot IntKind.u8 v 128 = ((UInt8.ofNat (n % 128)).toNat : Int) := by
  have e : v = ((n % 128 + 128 : Nat) : Int) := by
    have h0 : k - 1 - (k - 1) = 0 := by omega
    have hlt : k - 1 < k := by omega
    simp [row, digs, hlt] at h
    rw [← h]
    simp
    omega
  have := andNot128 ⟨n % 128 + 128, by omega⟩
  rw [e, this]
  simp
  omega

theorem convert_row {P : Program} (w : World) {src e dst t : TypeId} {base g n cap : Nat} {l : List UInt8} (hs : P.underlying src = some (.slice e)) (he : P.underlying e = some (.int .u8)) (hd : P.underlying dst = some .string)
    (hown : w.ownsRow base t 1 (.slice (some ⟨g, 0, none⟩) n cap) n (row l)) : (convert src dst (.slice (some ⟨g, 0, none⟩) n cap)).run P w = .ok (.string ⟨l.toArray⟩) w := by
  have hl : l.length = n := by simpa [row] using hown.1
  have h := run_convert_bytes_arg (P := P) w src e hs he g 0 n cap (l.map fun b => (b.toNat : Int)) (by simpa using hl) (fun i hi => by
    have hc := hown.cellAt i (by omega)
    rw [Nat.zero_add, hc]
    have : i < l.length := by omega
    simp [row, List.getD, this]) dst hd
  have e : strOfNums (l.map fun b => (b.toNat : Int)) = ⟨l.toArray⟩ := by
    unfold strOfNums
    congr 2
    rw [List.map_map]
    conv => rhs; rw [← List.map_id l]
    apply List.map_congr_left
    intro b _
    simp
  rw [h, e]

theorem put_neg (n : Int) (w : World) (h : n < 0) :
    Calls Try.prog 30 #[.int .i64 n] w fun e w' => e = .returned (.string ⟨#[]⟩) ∧ Below w.heap.size w w' := by
  go_enter Try.func30, Try.ntmps30
  go_wp2
  go_ret
  exact ⟨rfl, Below.refl _ _⟩

theorem bitLen_of (n : Nat) (h : n ≤ 9223372036854775807) : n < 2 ^ Lib.bitLen n ∧ (Lib.bitLen n = 0 ∨ 2 ^ (Lib.bitLen n - 1) ≤ n) ∧ Lib.bitLen n ≤ 63 := by
  unfold Lib.bitLen
  by_cases h0 : n = 0
  · subst h0
    rw [Lib.bitLenAux_zero]
    simp
  · obtain ⟨h1, h2, h3⟩ := Lib.bitLenAux_bounds 64 n (by omega) h0
    refine ⟨h3, .inr h2, ?_⟩
    apply Nat.le_of_not_lt
    intro h4
    have h5 : 2 ^ 63 ≤ 2 ^ (Lib.bitLenAux 64 n - 1) := Nat.pow_le_pow_right (by decide) (by omega)
    omega

set_option maxRecDepth 8000 in
theorem put_nat (n : Nat) (w : World) (h : n ≤ 9223372036854775807) :
    Calls Try.prog 30 #[.int .i64 n] w fun e w' => e = .returned (.string ⟨(put n).toArray⟩) ∧ Below w.heap.size w w' := by
  obtain ⟨i0, hi, hz0, hz1, hz2⟩ := info_parts info_u8
  obtain ⟨hb1, hb2, hL⟩ := bitLen_of n h
  have H1 := Lib.hid hb1
  have H2 := Lib.hid hb2
  clear hb1 hb2
  obtain ⟨m, hm⟩ : ∃ m, m = many (Lib.bitLen n) := ⟨_, rfl⟩
  have hm1 : 1 ≤ m := by unfold many at hm; omega
  have hm9 : m ≤ 9 := by unfold many at hm; omega
  have hmI : max 1 (((Lib.bitLen n : Int) + 7 - 1) / 7) = (m : Int) := by unfold many at hm; omega
  have HM := Lib.hid hm
  have HI := Lib.hid hmI
  clear hm hmI
  go_enter Try.func30, Try.ntmps30
  go_wp2_with (first
    | (go_at_call 60; refine (Try.bits_Len64 _ _ (by omega) (by omega)).mono ?_; rintro e w' ⟨rfl, rfl⟩)
    | (at_make; rw [HI.out]; refine wpList_make_full _ rfl _ _ _ rfl w'.heap.size 5 i0 (.int .u8 0) 1 Try.underlying60 hi hz0 hz1 _ _ _ _ m rfl rfl rfl rfl (by rw [hz2]; omega) (by unfold maxLen; omega) (Nat.le_refl _) ?_; intro w1 hown hgrow))
  have hb := (Below.refl w'.heap.size w').grown hgrow (Nat.le_refl _) (by simp)
  go_wp2
  go_loopw [18] (fun i wr => ∃ k : Nat, k ≤ m ∧ i = .int .i64 k ∧ wr.ownsRow w'.heap.size 5 1 (.slice (some ⟨w'.heap.size, 0, none⟩) m m) m (row ((digs m n).take k ++ List.replicate (m - k) 0)) ∧ Below w'.heap.size w' wr) (fun i _ => m - (intOf i).toNat)
  case atStart => exact ⟨0, Nat.zero_le _, rfl, by rw [made_row] at hown; simpa using hown, hb⟩
  case round =>
    obtain ⟨k, hk, rfl, hown, hb⟩ := hrel
    by_cases hlt : k < m
    · have hc := hown.cellAt k (by omega)
      have hf := hown.frozenAt k
      obtain ⟨v0, hv0⟩ := row_at ((digs m n).take k ++ List.replicate (m - k) 0) k (by simp [digs_length]; omega)
      rw [hv0] at hc
      clear hv0
      go_wp2
      go_roundw
      case rel =>
        refine ⟨k + 1, by omega, by go_num, ?_, hb.setCell (Nat.le_refl _) _⟩
        have h1 := (hown.stored k (.int .u8 ((digs m n).getD k 0).toNat)).1
        rw [row_set, take_set _ k m (digs_length m n) hlt] at h1
        rw [digs_or m n k hlt]
        exact h1
      case measure => simp [intOf]; omega
    · obtain rfl : k = m := by omega
      have hc := hown.cellAt (k - 1) (by omega)
      have hf := hown.frozenAt (k - 1)
      obtain ⟨v0, hv0⟩ := row_at ((digs k n).take k ++ List.replicate (k - k) 0) (k - 1) (by simp [digs_length]; omega)
      rw [hv0] at hc
      obtain ⟨W, hW⟩ : ∃ W, W = wr.setCell ⟨w'.heap.size, k - 1, none⟩ (Value.int IntKind.u8 (bits BinOp.andNot IntKind.u8 v0 128)) := ⟨_, rfl⟩
      have hcv : (convert 60 9 (.slice (some ⟨w'.heap.size, 0, none⟩) k k)).run Try.prog W = .ok (.string ⟨(put n).toArray⟩) W := by
        subst hW
        have h1 := (hown.stored (k - 1) (.int .u8 (UInt8.ofNat (n % 128)).toNat)).1
        rw [row_set] at h1
        simp only [Nat.sub_self, List.replicate_zero, List.append_nil] at h1 hv0
        rw [List.take_of_length_le (by rw [digs_length]; exact Nat.le_refl _)] at h1 hv0
        have e : bits BinOp.andNot IntKind.u8 v0 128 = ((UInt8.ofNat (n % 128)).toNat : Int) := digs_andNot k n v0 hm1 hv0
        have e2 : put n = (digs k n).set (k - 1) (UInt8.ofNat (n % 128)) := by
          rw [put_many _ n H1.out H2.out, ← HM.out]
        rw [e, e2]
        exact convert_row _ Try.underlying60 Try.underlying5 Try.underlying9 h1
      subst hW
      have hbW := hb.setCell (p := ⟨w'.heap.size, k - 1, none⟩) (Nat.le_refl _) (Value.int IntKind.u8 (bits BinOp.andNot IntKind.u8 v0 128))
      clear hv0
      go_wp2
      go_ret
      exact ⟨rfl, hbW⟩

theorem conv1 (W : World) (v : Int) : (convert 60 9 (.slice (some ⟨W.heap.size, 0, none⟩) 1 1)).run Try.prog (W.alloc (.cells #[.int .u8 v] 5)) = .ok (.string ⟨[UInt8.ofNat v.toNat].toArray⟩) (W.alloc (.cells #[.int .u8 v] 5)) :=
  run_convert_bytes_arg (P := Try.prog) (W.alloc (.cells #[.int .u8 v] 5)) _ _ Try.underlying60 Try.underlying5 W.heap.size 0 1 1 [v] rfl (fun i hi => by
    obtain rfl : i = 0 := by omega
    simp [List.getD]) _ Try.underlying9

theorem string_cons (b : UInt8) (l : List UInt8) : Value.string (⟨#[b]⟩ ++ ⟨l.toArray⟩) = .string ⟨(b :: l).toArray⟩ := congrArg Value.string (ByteArray.mk_append_mk [b] l)

theorem refPut_neg (n : Int) (w : World) (h : n < 0) :
    Calls Try.prog 41 #[.int .i64 n] w fun e w' => e = .returned (.string ⟨#[]⟩) ∧ Below w.heap.size w w' := by
  go_enter Try.func41, Try.ntmps41
  go_wp2
  go_ret
  exact ⟨rfl, Below.refl _ _⟩

theorem refPut_nat (n : Nat) (w : World) (h : n ≤ 9223372036854775807) :
    Calls Try.prog 41 #[.int .i64 n] w fun e w' => e = .returned (.string ⟨(put n).toArray⟩) ∧ Below w.heap.size w w' := by
  have hc := conv1
  go_enter Try.func41, Try.ntmps41
  go_wp2
  go_loopw [0, 3] (fun a s wr => ∃ (q : Nat) (l : List UInt8), q ≤ n ∧ Hid (hi q ++ l = put n) ∧ l.length ≤ 9 ∧ a = .int .i64 q ∧ s = .string ⟨l.toArray⟩ ∧ Below w.heap.size w wr) (fun a _ _ => (intOf a).toNat)
  case atStart => exact ⟨n / 128, [UInt8.ofNat (n % 128)], by omega, rfl, by simp, by go_num, by congr 3, (Below.refl _ _).alloc (Nat.le_refl _) _⟩
  case round =>
    obtain ⟨q, l, hq, hl, hl9, rfl, rfl, hb⟩ := hrel
    have hsz := hb.size
    by_cases hlt : 0 < q
    · go_wp2
      go_roundw
      case rel =>
        refine ⟨q / 128, UInt8.ofNat (q % 128 + 128) :: l, by omega, ?_, ?_, by go_num, ?_, hb.alloc hsz _⟩
        · show hi (q / 128) ++ UInt8.ofNat (q % 128 + 128) :: l = put n
          rw [← hl.out, hi_pos hlt, List.append_assoc]
          rfl
        · have h9 := put_length9 n h
          have := hl.out
          rw [← this, hi_pos hlt] at h9
          simp only [List.length_append, List.length_cons, List.length_nil] at h9 ⊢
          omega
        · rw [show UInt8.ofNat (q % 128) + 128 = UInt8.ofNat (q % 128 + 128) by simp]
          exact string_cons _ _
      case measure => simp [intOf]; omega
    · obtain rfl : q = 0 := by omega
      go_wp2
      go_ret
      exact ⟨by rw [← hl.out, hi_zero]; rfl, hb⟩
end Go.Proofs.Ytanaoepakllohaa
