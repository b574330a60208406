/- The walks of BlocksFind, BlocksEncode, BlocksDecode. -/
import Derived.Test.YtglonbkhocnplaaBlocksM
import Derived.Test.YtglonbkhocnplaaBlocksO
namespace Go.Proofs.Ytglonbkhocnplaa
open Go.RowKit Spoor

/-- the cell and the flag that Find tells -/
def findC (key : List UInt8) (D : Option (List Ce)) : Ce := ((D.getD []).find? (hasKey key)).getD Ce.zero
def findF (key : List UInt8) (D : Option (List Ce)) : Bool := ((D.getD []).find? (hasKey key)).isSome
theorem findV_c (key : List UInt8) (D : Option (List Ce)) : findV key D = .tuple #[ceVal (findC key D), .bool (findF key D)] := by
  rw [findV_get]
  unfold findC findF
  cases (D.getD []).find? (hasKey key) <;> rfl
set_option maxHeartbeats 4000000 in
theorem blocksFind_law (s key : ByteArray) (hs : s.size ≤ 140737488351232) (hk : key.size ≤ 140737488351232) (w : World) :
    Calls Try.prog 4 #[.string s, .string key] w fun e w' => e = .returned (.bool true) ∧ Below w.heap.size w w' := by
  have es : s = ⟨s.data.toList.toArray⟩ := by cases s; simp
  have ek : key = ⟨key.data.toList.toArray⟩ := by cases key; simp
  rw [es] at hs ⊢
  rw [ek] at hk ⊢
  rw [size_of] at hs hk
  generalize s.data.toList = s at *
  generalize key.data.toList = key at *
  clear es ek
  have CD := Lib.hid bdoes_true
  by_cases h1 : (5000 : Int) < (s.length : Int)
  · go_enter Try.func4, Try.ntmps4
    go_wp2_with fail
    go_ret
    exact ⟨rfl, Below.refl _ _⟩
  · by_cases h2 : (1000 : Int) < (key.length : Int)
    · have e1 := decide_eq_false h1
      go_enter Try.func4, Try.ntmps4
      go_wp2_with fail
      go_ret
      exact ⟨rfl, Below.refl _ _⟩
    · have e1 := decide_eq_false h1
      have e2 := decide_eq_false h2
      have c1 := fun W => findB_any s key W (by omega)
      have c2 := fun W => refFindB_any s key W (by omega)
      rw [findV_c] at c1 c2
      have ne := fun W => eql_ce (findC key (decB s)) (findC key (decB s)) W
      rw [decide_eq_true rfl] at ne
      generalize findC key (decB s) = c at *
      generalize findF key (decB s) = f at *
      have k1 := fun (W : World) => CeAt.boxed c W
      unfold ceVal at c1 c2 ne
      unfold boxC at k1
      have C1 := Lib.hid c1
      have C2 := Lib.hid c2
      have K1 := Lib.hid k1
      clear c1 c2 k1
      go_enter Try.func4, Try.ntmps4
      go_wp2_with fail
      refine (C1.out _).mono ?_
      rintro e w1 ⟨rfl, b1⟩
      have q1 := K1.out w1
      have b2 := (Below.refl w1.heap.size w1).alloc (Nat.le_refl _) (boxC c)
      unfold boxC at b2
      have B := btB b1 b2
      clear b1 b2
      go_wp2_with fail
      generalize w1.alloc _ = w2 at *
      generalize w1.heap.size = g1 at *
      refine (C2.out _).mono ?_
      rintro e w3 ⟨rfl, b3⟩
      have B := btB B b3
      have q1 := (q1.later b3 q1.lt).alloc' (boxC c)
      have q2 := K1.out w3
      have b4 := (Below.refl w3.heap.size w3).alloc (Nat.le_refl _) (boxC c)
      unfold boxC at b4 q1
      have B := btB B b4
      clear b3 b4
      obtain ⟨x0, x1, x2⟩ := q1.cell
      obtain ⟨y0, y1, y2⟩ := q2.cell
      go_wp2_with fail
      refine (CD.out _).mono ?_
      rintro e w5 ⟨rfl, b5⟩
      have B := btB B b5
      go_wp2_with fail
      go_ret
      exact ⟨rfl, B⟩
/-- an error's number -/
def encE (l : List Ce) : Int := if sortedB l then 0 else 2
def encS (l : List Ce) : List UInt8 := if sortedB l then blockB l else []
theorem encV_c (l : List Ce) : encV l = .tuple #[.string ⟨(encS l).toArray⟩, .int .i64 (encE l)] := by
  unfold encV encS encE
  cases sortedB l <;> rfl
theorem great_yes {l : List Ce} {m : Nat} (h : greatL l m = false) : l.length ≤ m ∧ ∀ c ∈ l, c.k.length ≤ 1000 ∧ c.v.length ≤ 1000 := by
  unfold greatL at h
  simp only [Bool.or_eq_false_iff, decide_eq_false_iff_not, List.any_eq_false] at h
  refine ⟨by omega, fun c hc => ?_⟩
  have := h.2 c hc
  unfold greatC at this
  simp only [Bool.or_eq_true, decide_eq_true_eq, not_or] at this
  omega
theorem fits_great {l : List Ce} {m : Nat} (h : greatL l m = false) (hw : ∀ c ∈ l, WfC c) : ∀ c ∈ l, FitsC c := fun c hc => by
  have h1 := (great_yes h).2 c hc
  exact ⟨by omega, by omega, (hw c hc).2.2⟩
theorem len_great {l : List Ce} {m : Nat} (h : greatL l m = false) (hm : m ≤ 1000) (hw : ∀ c ∈ l, WfC c) (hs : sortedB l = true) : (blockB l).length ≤ 300000 := by
  have h1 := (great_yes h).1
  have := blockB_len hs (fun c hc => (hw c hc).2.2) (by omega)
  omega
end Go.Proofs.Ytglonbkhocnplaa
