/- The walks of ints.Put and of the reference's. -/
import Derived.Test.YtpcapifjbhaeeaaShelf
import Derived.Test.YtpcapifjbhaeeaaChecked
import Derived.Test.YtpcapifjbhaeeaaInts0
import Derived.WalkKit
import Derived.WalkSmall
import Derived.Lib.ItoaNum
import Derived.Lib.Hide
namespace Go.Proofs.Ytpcapifjbhaeeaa
set_option maxRecDepth 16000
open Go.RowKit Spoor

theorem info_u8 : (Try.prog.info? 5).map (fun i => (i.zero, i.size, i.bytes)) = some (some (.int .u8 0), 1, 1) := by kernel_rfl

/-- bytes as a row of cells -/
def row (l : List UInt8) : List Value := l.map fun b => .int .u8 b.toNat

theorem row_at (l : List UInt8) (k : Nat) (h : k < l.length) : ∃ v : Int, (row l)[k]? = some (.int .u8 v) := ⟨l[k].toNat, by simp [row, h]⟩

theorem row_set (l : List UInt8) (k : Nat) (b : UInt8) : (row l).set k (.int .u8 b.toNat) = row (l.set k b) := by simp [row]

theorem take_set (l : List UInt8) (k m : Nat) (hl : l.length = m) (h : k < m) :
    (l.take k ++ List.replicate (m - k) 0).set k (l.getD k 0) = l.take (k + 1) ++ List.replicate (m - (k + 1)) 0 := by
  subst hl
  rw [List.set_append_right _ _ (by simp; omega)]
  obtain ⟨r, hr⟩ : ∃ r, l.length - k = r + 1 := ⟨l.length - k - 1, by omega⟩
  have e : (k - (l.take k).length) = 0 := by simp; omega
  rw [hr, e, List.replicate_succ, List.set_cons_zero, List.take_succ_eq_append_getElem h, List.append_assoc]
  congr 1
  have : l.length - (k + 1) = r := by omega
  rw [this]
  simp [List.getD, h]

theorem made_row (n : Nat) : (madeCells (Value.int .u8 0).cells (n * 1)).toList = row (List.replicate n 0) := by
  have := toList_madeCells_one (Value.int .u8 0) n
  simpa [row, Value.cells] using this

theorem or128 : ∀ x : Fin 256, bits BinOp.or IntKind.u8 (x.val : Int) 128 = ((x.val % 128 + 128 : Nat) : Int) := by decide +kernel

theorem digs_or (m n k : Nat) (h : k < m) : bits BinOp.or IntKind.u8 ((n : Int) / 2 ^ (7 * (m - 1 - k)) % 256) 128 = (((digs m n).getD k 0).toNat : Int) := by
  have e : ((n : Int) / 2 ^ (7 * (m - 1 - k)) % 256) = ((n / 2 ^ (7 * (m - 1 - k)) % 256 : Nat) : Int) := by simp
  have h2 := or128 ⟨n / 2 ^ (7 * (m - 1 - k)) % 256, Nat.mod_lt _ (by decide)⟩
  rw [e, h2]
  have h3 : (digs m n).getD k 0 = UInt8.ofNat (n / 128 ^ (m - 1 - k) % 128 + 128) := by simp [digs, List.getD, h]
  rw [h3, pow128]
  simp
  omega

theorem andNot128 : ∀ x : Fin 256, bits BinOp.andNot IntKind.u8 (x.val : Int) 128 = ((x.val % 128 : Nat) : Int) := by decide +kernel

theorem digs_andNot (k n : Nat) (v : Int) (h1 : 1 ≤ k) (h : (row (digs k n))[k - 1]? = some (.int .u8 v)) : bits BinOp.andNot IntKind.u8 v 128 = ((UInt8.ofNat (n % 128)).toNat : Int) := by
  have e : v = ((n % 128 + 128 : Nat) : Int) := by
    have h0 : k - 1 - (k - 1) = 0 := by omega
    have hlt : k - 1 < k := by omega
    simp [row, digs, hlt] at h
    rw [← h]
    simp
    omega
  have := andNot128 ⟨n % 128 + 128, by omega⟩
  rw [e, this]
  simp
  omega

theorem convert_row {P : Program} (w : World) {src e dst t : TypeId} {base g n cap : Nat} {l : List UInt8} (hs : P.underlying src = some (.slice e)) (he : P.underlying e = some (.int .u8)) (hd : P.underlying dst = some .string)
    (hown : w.ownsRow base t 1 (.slice (some ⟨g, 0, none⟩) n cap) n (row l)) : (convert src dst (.slice (some ⟨g, 0, none⟩) n cap)).run P w = .ok (.string ⟨l.toArray⟩) w := by
  have hl : l.length = n := by simpa [row] using hown.1
  have h := run_convert_bytes_arg (P := P) w src e hs he g 0 n cap (l.map fun b => (b.toNat : Int)) (by simpa using hl) (fun i hi => by
    have hc := hown.cellAt i (by omega)
    rw [Nat.zero_add, hc]
    have : i < l.length := by omega
    simp [row, List.getD, this]) dst hd
  have e : strOfNums (l.map fun b => (b.toNat : Int)) = ⟨l.toArray⟩ := by
    unfold strOfNums
    congr 2
    rw [List.map_map]
    conv => rhs; rw [← List.map_id l]
    apply List.map_congr_left
    intro b _
    simp
  rw [h, e]

theorem bitLen_of (n : Nat) (h : n ≤ 9223372036854775807) : n < 2 ^ Lib.bitLen n ∧ (Lib.bitLen n = 0 ∨ 2 ^ (Lib.bitLen n - 1) ≤ n) ∧ Lib.bitLen n ≤ 63 := by
  unfold Lib.bitLen
  by_cases h0 : n = 0
  · subst h0
    rw [Lib.bitLenAux_zero]
    simp
  · obtain ⟨h1, h2, h3⟩ := Lib.bitLenAux_bounds 64 n (by omega) h0
    refine ⟨h3, .inr h2, ?_⟩
    apply Nat.le_of_not_lt
    intro h4
    have h5 : 2 ^ 63 ≤ 2 ^ (Lib.bitLenAux 64 n - 1) := Nat.pow_le_pow_right (by decide) (by omega)
    omega

theorem string_cons (b : UInt8) (l : List UInt8) : Value.string (⟨#[b]⟩ ++ ⟨l.toArray⟩) = .string ⟨(b :: l).toArray⟩ := congrArg Value.string (ByteArray.mk_append_mk [b] l)

end Go.Proofs.Ytpcapifjbhaeeaa
