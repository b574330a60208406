/- The walks of a shelf's get, and of Live. -/
import Derived.Test.YtfkjdjdgcegniaaRowsD
import Derived.Deep.AppendLies
namespace Go.Proofs.Ytfkjdjdgcegniaa
set_option maxRecDepth 16000
open Go.RowKit Spoor
set_option linter.unusedVariables false

theorem lastOf_at (S : List Ce) (key : List UInt8) (k : Nat) (hk : k < S.length) (h : ∀ j, k < j → j < S.length → (S.getD j Ce.zero).k ≠ key) : lastOf S key = if (S.getD k Ce.zero).k = key then some (S.getD k Ce.zero) else lastOf (S.take k) key := by
  have e : S = S.take k ++ S.getD k Ce.zero :: S.drop (k + 1) := by
    have h1 : S.getD k Ce.zero = S[k] := by simp [List.getD, hk]
    rw [h1, ← List.drop_eq_getElem_cons hk, List.take_append_drop]
  have hd : ∀ c ∈ S.drop (k + 1), (c.k == key) = false := by
    intro c hc
    obtain ⟨j, hj, rfl⟩ := List.mem_iff_getElem.1 hc
    rw [List.length_drop] at hj
    have := h (k + 1 + j) (by omega) (by omega)
    rw [List.getElem_drop]
    rw [show S.getD (k + 1 + j) Ce.zero = S[k + 1 + j] by simp [List.getD, show k + 1 + j < S.length by omega]] at this
    exact beq_eq_false_iff_ne.2 this
  have hnone : (S.drop (k + 1)).reverse.find? (fun c => c.k == key) = none := by
    rw [List.find?_eq_none]
    intro c hc
    rw [hd c (by simpa using hc)]
    simp
  conv => lhs; rw [e]
  unfold lastOf
  rw [List.reverse_append, List.reverse_cons, List.append_assoc, List.find?_append, hnone]
  simp only [Option.none_or, List.cons_append, List.nil_append, List.find?_cons]
  by_cases hy : (S.getD k Ce.zero).k = key
  · rw [if_pos hy, show ((S.getD k Ce.zero).k == key) = true by simpa using hy]
  · rw [if_neg hy, show ((S.getD k Ce.zero).k == key) = false from beq_eq_false_iff_ne.2 hy]
theorem lastOf_take (S : List Ce) (key : List UInt8) (k : Nat) (hk : k ≤ S.length) (h : ∀ j, k ≤ j → j < S.length → (S.getD j Ce.zero).k ≠ key) : lastOf S key = lastOf (S.take k) key := by
  conv => lhs; rw [← List.take_append_drop k S]
  unfold lastOf
  have hnone : (S.drop k).reverse.find? (fun c => c.k == key) = none := by
    rw [List.find?_eq_none]
    intro c hc
    obtain ⟨j, hj, rfl⟩ := List.mem_iff_getElem.1 (by simpa using hc : c ∈ S.drop k)
    rw [List.length_drop] at hj
    have := h (k + j) (by omega) (by omega)
    rw [List.getElem_drop]
    rw [show S.getD (k + j) Ce.zero = S[k + j] by simp [List.getD, show k + j < S.length by omega]] at this
    simpa using this
  rw [List.reverse_append, List.find?_append, hnone, Option.none_or]
def getShV : Option Ce → Value
  | none => .tuple #[ceVal Ce.zero, .bool false]
  | some c => .tuple #[ceVal c, .bool true]
/-- a shelf with its cells -/
structure ShAt (p : Nat) (S : List Ce) (w : World) : Prop where
  at' : ∃ v, w.heap[p]? = some (.cells #[v] 44 (0, 0)) ∧ SlAt v S w
  fits : ∀ c ∈ S, FitsC c
theorem ShAt.later {p : Nat} {S : List Ce} {w w' : World} (h : ShAt p S w) (hb : Below w.heap.size w w') : ShAt p S w' := by
  obtain ⟨v, h1, h2⟩ := h.at'
  exact ⟨⟨v, blk_later h1 hb, h2.later hb⟩, h.fits⟩
theorem below_set3 {B b : Nat} {a W : World} (h : Below B a W) (hb : B ≤ b) (v0 v1 v2 : Value) :
    Below B a (((W.setCell ⟨b, 0, none⟩ v0).setCell ⟨b, 1, none⟩ v1).setCell ⟨b, 2, none⟩ v2) :=
  ((h.setCell (p := ⟨b, 0, none⟩) hb v0).setCell (p := ⟨b, 1, none⟩) hb v1).setCell (p := ⟨b, 2, none⟩) hb v2
set_option maxHeartbeats 1000000 in
theorem get_sh_any (p : Nat) (S : List Ce) (key : List UInt8) (w : World) (hsh : ShAt p S w) (hl : S.length ≤ 1000000) :
    Calls Try.prog 20 #[.pointer (some ⟨p, 0, none⟩), .string ⟨key.toArray⟩] w fun e w' => e = .returned (getShV (lastOf S key)) ∧ Below w.heap.size w w' := by
  obtain ⟨v, hv, hs⟩ := hsh.at'
  have b0 := (Below.refl w.heap.size w).alloc (Nat.le_refl _) (boxC Ce.zero)
  have q0 := CeAt.boxed Ce.zero w
  have hv := blk_later hv b0
  have hs := hs.later b0
  have plt := (Array.getElem?_eq_some_iff.1 hv).1
  have pne : p < w.heap.size := by
    obtain ⟨v2, hv2, _⟩ := hsh.at'
    exact (Array.getElem?_eq_some_iff.1 hv2).1
  obtain ⟨A, cap, rfl, h1, h2, h3⟩ := hs
  unfold maxLen at h2
  obtain ⟨R, hR⟩ : ∃ R, getShV (lastOf S key) = R := ⟨_, rfl⟩
  rw [hR]
  have HR := Lib.hid hR
  have H3 := Lib.hid h3
  obtain ⟨n, hn⟩ : ∃ n, S.length = n := ⟨_, rfl⟩
  have HN := Lib.hid hn
  rw [hn] at h1 hl hv
  have c0 := cell_of_one hv
  have Q0 := Lib.hid q0
  have B := Lib.hid b0
  have HV := Lib.hid hv
  clear hR h3 hn hv q0 b0 hsh plt
  unfold boxC Ce.zero at *
  go_enter Try.func20, Try.ntmps20
  go_wp2_with fail
  generalize World.alloc _ _ = w1 at *
  go_loopw [6] (fun i wr => wr = w1 ∧ ∃ k : Nat, k ≤ n ∧ i = .int .i64 ((k : Int) - 1) ∧ Hid (∀ j, k ≤ j → j < S.length → (S.getD j Ce.zero).k ≠ key)) (fun i _ => (intOf i + 1).toNat)
  case atStart => exact ⟨rfl, n, Nat.le_refl _, by go_num, Lib.hid (fun j h1 h2 => by have := HN.out; omega)⟩
  case round =>
    obtain ⟨rfl, k, hk, rfl, HK⟩ := hrel
    obtain ⟨f0, f1, f2⟩ := CeAt.frees (c := ⟨[], 0, []⟩) Q0.out
    obtain ⟨z0, z1, z2⟩ := CeAt.cell (c := ⟨[], 0, []⟩) Q0.out
    have lt0 := CeAt.lt (c := ⟨[], 0, []⟩) Q0.out
    cases k with
    | zero =>
      have hno := lastOf_take S key 0 (Nat.zero_le _) HK.out
      have HNO := Lib.hid hno
      clear hno
      go_wp2_with fail
      refine bodyPost_ret (v := R) ?_ rfl ⟨rfl, below_set3 B.out (Nat.le_refl _) _ _ _⟩
      rw [← HR.out, HNO.out]
      simp [results, getShV, lastOf, ceVal, Ce.zero, Try.results20, go_sem, *]
    | succ m =>
      have hms : m < S.length := by rw [HN.out]; omega
      obtain ⟨bb, o, rfl, hrow⟩ := H3.out (by omega)
      obtain ⟨x0, x1, x2⟩ := hrow.cells hms
      have hat := lastOf_at S key m hms (fun j h1 h2 => HK.out j (by omega) h2)
      have HAT := Lib.hid hat
      have hkm : ((m : Int) + 1 - 1) = m := by omega
      have hm0 : (0 : Int) ≤ (m : Int) := by omega
      have hmn : (m : Int) < (n : Int) := by omega
      have hlt := hrow.1
      push_cast
      rw [hkm]
      clear hat hrow hkm
      by_cases he : (S.getD m Ce.zero).k = key
      · have hat2 : lastOf S key = some (S.getD m Ce.zero) := by rw [HAT.out, if_pos he]
        have HAT := Lib.hid hat2
        clear hat2
        subst he
        clear HK
        generalize S.getD m Ce.zero = c at *
        go_wp2_with fail
        refine bodyPost_ret (v := R) ?_ rfl ⟨rfl, below_set3 B.out (Nat.le_refl _) _ _ _⟩
        rw [← HR.out, HAT.out]
        simp [results, getShV, ceVal, Try.results20, go_sem, *]
      · have heb : ((S.getD m Ce.zero).k == key) = false := beq_eq_false_iff_ne.2 he
        have HE := Lib.hid he
        have HK2 : Hid (∀ j, m ≤ j → j < S.length → (S.getD j Ce.zero).k ≠ key) := Lib.hid (fun j h1 h2 => by
          rcases Nat.eq_or_lt_of_le h1 with rfl | h1
          · exact HE.out
          · exact HK.out j (by omega) h2)
        clear HK
        generalize S.getD m Ce.zero = c at *
        go_wp2_with fail
        go_roundw
        case rel => exact ⟨trivial, m, by omega, by go_num, HK2⟩
        case measure => first | (simp [intOf]; done) | (simp [intOf]; omega)
end Go.Proofs.Ytfkjdjdgcegniaa
