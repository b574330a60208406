/- The walks of Decode and Find. -/
import Derived.Test.YtanaoepakllohaaBlocksH
namespace Go.Proofs.Ytanaoepakllohaa
set_option maxRecDepth 16000
open Go.RowKit Spoor

def DecEx (s : List UInt8) (w : World) (e : Ending) (w' : World) : Prop :=
  Below w.heap.size w w' ∧ ((decB s = none ∧ e = .returned (.tuple #[.slice none 0 0, .int .i64 30])) ∨
    ∃ l v, decB s = some l ∧ e = .returned (.tuple #[v, .int .i64 0]) ∧ w'.ownsRow w.heap.size 36 3 v l.length (rowOf l))
theorem decodeB_any (s : List UInt8) (w : World) (hs : s.length ≤ 1000000000) : Calls Try.prog 47 #[.string ⟨s.toArray⟩] w (DecEx s w) := by
  have hv : VarAt w.heap.size (.slice none 0 0) (w.alloc (.cells #[.slice none 0 0] 22)) := heap_alloc_new w _
  have b0 := (Below.refl w.heap.size w).alloc (Nat.le_refl _) (.cells #[.slice none 0 0] 22)
  have ce := each_any s w.heap.size (w.alloc (.cells #[.slice none 0 0] 22)) hs hv
  have hmf : ∀ (fn : Fn) (first cap : Array Value) (w : World), (Instr.makeFunc fn first cap).run Try.prog w = .ok (.func fn first cap) w := fun _ _ _ _ => rfl
  obtain ⟨D, hD⟩ : ∃ D, decB s = D := ⟨_, rfl⟩
  have HD := Lib.hid hD
  rw [hD] at ce
  have CE := Lib.hid ce
  clear ce hD
  cases D with
  | none =>
    simp only [Option.isSome_none] at CE
    go_enter Try.func47, Try.ntmps47
    go_wp2_with fail
    refine CE.out.mono ?_
    rintro e w1 ⟨rfl, hb, hx⟩
    clear hv
    go_wp2_with fail
    go_ret2
    exact ⟨b0.trans hb, .inl ⟨HD.out, rfl⟩⟩
  | some l =>
    simp only [Option.isSome_some] at CE
    go_enter Try.func47, Try.ntmps47
    go_wp2_with fail
    refine CE.out.mono ?_
    rintro e w1 ⟨rfl, hb, hx⟩
    clear hv
    obtain ⟨v, hv, own⟩ := hx l HD.out
    have HB := b0.trans hb
    have z0 := cell_of_one hv
    clear hx hb b0
    go_wp2_with fail
    go_ret2
    exact ⟨HB, .inr ⟨l, v, HD.out, rfl, own.mono (by omega)⟩⟩
/-- which cell has a key -/
def hasKey (key : List UInt8) (c : Ce) : Bool := c.k == key
/-- the place of the first cell with a key, from a place on -/
def idxKey (key : List UInt8) (l : List Ce) : Option Nat := l.findIdx? (hasKey key)
def idxV : Option Nat → Int
  | none => -1
  | some i => i
theorem findIdx_take (key : List UInt8) (l : List Ce) (k : Nat) (h : ∀ i, i < k → hasKey key (l.getD i Ce.zero) = false) (hk : k < l.length) (hy : hasKey key (l.getD k Ce.zero) = true) : idxKey key l = some k := by
  unfold idxKey
  rw [List.findIdx?_eq_some_iff_getElem]
  refine ⟨hk, by simpa [List.getD, hk] using hy, fun j hj => ?_⟩
  have := h j hj
  simp [List.getD, show j < l.length by omega] at this
  simp [this]
theorem findIdx_none (key : List UInt8) (l : List Ce) (h : ∀ i, i < l.length → hasKey key (l.getD i Ce.zero) = false) : idxKey key l = none := by
  unfold idxKey
  rw [List.findIdx?_eq_none_iff]
  intro x hx
  obtain ⟨i, hi, rfl⟩ := List.mem_iff_getElem.1 hx
  have := h i hi
  simpa [List.getD, hi] using this
/-- what Find tells -/
def findV (key : List UInt8) (D : Option (List Ce)) : Value :=
  match D.bind fun l => l.find? (hasKey key) with
  | none => .tuple #[ceVal Ce.zero, .bool false]
  | some c => .tuple #[ceVal c, .bool true]
theorem find_idx (key : List UInt8) (l : List Ce) (k : Nat) (h : idxKey key l = some k) : k < l.length ∧ l.find? (hasKey key) = some (l.getD k Ce.zero) := by
  unfold idxKey at h
  rw [List.findIdx?_eq_some_iff_getElem] at h
  obtain ⟨hk, h1, h2⟩ := h
  refine ⟨hk, ?_⟩
  rw [List.find?_eq_some_iff_getElem]
  refine ⟨by simpa [List.getD, hk] using h1, k, hk, by simp [List.getD, hk], fun j hj => by simpa using h2 j hj⟩
theorem find_idx_none (key : List UInt8) (l : List Ce) (h : idxKey key l = none) : l.find? (hasKey key) = none := by
  unfold idxKey at h
  rw [List.findIdx?_eq_none_iff] at h
  rw [List.find?_eq_none]
  intro x hx
  have := h x hx
  simp [this]
end Go.Proofs.Ytanaoepakllohaa
