/- The walks on cells: which may be, their order, whether they are sorted. -/
import Derived.Test.YtpcapifjbhaeeaaIntsB
import Derived.Test.YtpcapifjbhaeeaaGrow
import Derived.Test.YtpcapifjbhaeeaaShelf
import Derived.Test.YtpcapifjbhaeeaaOpen
import Derived.Test.YtpcapifjbhaeeaaBlocks0
import Derived.Deep.MidRow
import Derived.Lib.Hide
import Derived.Laws.Cover1
namespace Go.Proofs.Ytpcapifjbhaeeaa
set_option maxRecDepth 16000
open Go.RowKit Spoor

def ceVal (c : Ce) : Value := .agg #[.string ⟨c.k.toArray⟩, .int .i64 c.q, .string ⟨c.v.toArray⟩]
def ceRow (c : Ce) : List Value := [.string ⟨c.k.toArray⟩, .int .i64 c.q, .string ⟨c.v.toArray⟩]
def boxC (c : Ce) : Obj := .cells #[.string ⟨c.k.toArray⟩, .int .i64 c.q, .string ⟨c.v.toArray⟩] 33
def FitsC (c : Ce) : Prop := c.k.length ≤ 140737488351232 ∧ c.v.length ≤ 140737488351232 ∧ c.q ≤ 9223372036854775807

/-- what every cell that comes in is -/
def WfC (c : Ce) : Prop := c.k.length ≤ maxLen ∧ c.v.length ≤ maxLen ∧ c.q ≤ 9223372036854775807

theorem may_any (c : Ce) (w : World) (hf : FitsC c) :
    Calls Try.prog 27 #[ceVal c] w fun e w' => e = .returned (.bool c.may) ∧ Below w.heap.size w w' := by
  obtain ⟨k, q, v⟩ := c
  obtain ⟨f1, f2, f3⟩ := hf
  simp only at f1 f2 f3
  clear f3
  unfold ceVal Ce.may
  simp only
  by_cases h0 : k = []
  · subst h0
    rw [show (decide (1 ≤ ([] : List UInt8).length ∧ ([] : List UInt8).length ≤ 64) && decide (0 ≤ q) && decide (v.length ≤ 128)) = false by simp]
    go_enter Try.func27, Try.ntmps27
    go_wp2_with fail
    go_ret
    exact ⟨rfl, (Below.refl _ _).alloc (Nat.le_refl _) _⟩
  · have hp : 1 ≤ k.length := by cases k with
      | nil => exact absurd rfl h0
      | cons a b => simp
    have h1 : k.isEmpty = false := by cases k with
      | nil => exact absurd rfl h0
      | cons a b => rfl
    by_cases h2 : (k.length : Int) ≤ 64
    · by_cases h3 : 0 ≤ q
      · rw [show (decide (1 ≤ k.length ∧ k.length ≤ 64) && decide (0 ≤ q) && decide (v.length ≤ 128)) = decide ((v.length : Int) ≤ 128) by
          rw [decide_eq_true (show 1 ≤ k.length ∧ k.length ≤ 64 from ⟨hp, by omega⟩), decide_eq_true h3, Bool.true_and, Bool.true_and, decide_eq_decide]; omega]
        go_enter Try.func27, Try.ntmps27
        go_wp2_with fail
        go_ret
        exact ⟨rfl, (Below.refl _ _).alloc (Nat.le_refl _) _⟩
      · rw [show (decide (1 ≤ k.length ∧ k.length ≤ 64) && decide (0 ≤ q) && decide (v.length ≤ 128)) = false by rw [decide_eq_false h3]; simp]
        have h4 := decide_eq_false h3
        go_enter Try.func27, Try.ntmps27
        go_wp2_with fail
        go_ret
        exact ⟨rfl, (Below.refl _ _).alloc (Nat.le_refl _) _⟩
    · rw [show (decide (1 ≤ k.length ∧ k.length ≤ 64) && decide (0 ≤ q) && decide (v.length ≤ 128)) = false by rw [decide_eq_false (show ¬ (1 ≤ k.length ∧ k.length ≤ 64) by omega)]; simp]
      have h4 := decide_eq_false h2
      go_enter Try.func27, Try.ntmps27
      go_wp2_with fail
      go_ret
      exact ⟨rfl, (Below.refl _ _).alloc (Nat.le_refl _) _⟩

def cmpT (a b : List UInt8) : Int := if Op.bytesLess a b then -1 else if Op.bytesLess b a then 1 else 0
theorem compareT_any (a b : List UInt8) (w : World) :
    Calls Try.prog 60 #[.string ⟨a.toArray⟩, .string ⟨b.toArray⟩] w fun e w' => e = .returned (.int .i64 (cmpT a b)) ∧ w = w' := by
  unfold cmpT
  have isn : ∀ (x : ByteArray) (W : World), Calls Try.prog 69 #[.string x] W fun e w' => e = .returned (.bool false) ∧ W = w' := by
    intro x W
    have h : (x.toList == x.toList) = true := by simp
    go_enter Try.func69, Try.ntmps69
    go_wp2_with fail
    go_ret
    exact ⟨rfl, rfl⟩
  have IS := Lib.hid isn
  clear isn
  cases h1 : Op.bytesLess a b with
  | true =>
    simp only [if_true]
    go_enter Try.func60, Try.ntmps60
    go_wp2_with fail
    refine (IS.out _ _).mono ?_
    rintro e w1 ⟨rfl, rfl⟩
    go_wp2_with fail
    refine (IS.out _ _).mono ?_
    rintro e w2 ⟨rfl, rfl⟩
    go_wp2_with fail
    go_ret
    exact ⟨rfl, rfl⟩
  | false =>
    by_cases hab : a = b
    · subst hab
      rw [bl_irrefl]
      simp only [Bool.false_eq_true, if_false]
      go_enter Try.func60, Try.ntmps60
      go_wp2_with fail
      refine (IS.out _ _).mono ?_
      rintro e w1 ⟨rfl, rfl⟩
      go_wp2_with fail
      refine (IS.out _ _).mono ?_
      rintro e w2 ⟨rfl, rfl⟩
      go_wp2_with fail
      go_ret
      exact ⟨rfl, rfl⟩
    · have h2 : Op.bytesLess b a = true := by
        cases h2 : Op.bytesLess b a with
        | true => rfl
        | false => exact absurd (bl_total h1 h2) hab
      have hb : (a == b) = false := by simpa using hab
      rw [h2]
      simp only [if_true, Bool.false_eq_true, if_false]
      clear hab h2
      go_enter Try.func60, Try.ntmps60
      go_wp2_with fail
      refine (IS.out _ _).mono ?_
      rintro e w1 ⟨rfl, rfl⟩
      go_wp2_with fail
      refine (IS.out _ _).mono ?_
      rintro e w2 ⟨rfl, rfl⟩
      go_wp2_with fail
      go_ret
      exact ⟨rfl, rfl⟩

/-- of two cells the one that stands ahead: below 0 the first one -/
def cmpCe (a b : Ce) : Int := if cmpT a.k b.k = 0 then Lib.compareInt b.q a.q else cmpT a.k b.k
theorem cmpCe_less (a b : Ce) : decide (0 ≤ cmpCe a b) = !aheadC a b := by
  unfold cmpCe cmpT aheadC Lib.compareInt
  rcases bl_cases a.k b.k with ⟨h1, h2, h3, _⟩ | ⟨h1, h2, h3⟩ | ⟨h1, h2, h3, _⟩
  · rw [h1]; simp
  · rw [h1, h2, h3]
    simp only [Bool.false_eq_true, if_false, beq_self_eq_true, Bool.true_and, if_true, Bool.false_or]
    by_cases h : b.q < a.q
    · simp [h]
    · by_cases h' : b.q > a.q <;> simp [h, h']
  · rw [h1, h2, h3]; simp
theorem orOne (g : Nat) (a b R : Int) (w : World) (hR : R = if a = 0 then b else a) (h0 : w.cell? ⟨g, 0, none⟩ = some (.int .i64 a)) (h1 : w.cell? ⟨g, 1, none⟩ = some (.int .i64 b)) :
    Calls Try.prog 59 #[.slice (some ⟨g, 0, none⟩) 2 2] w fun e w' => e = .returned (.int .i64 R) ∧ w = w' := by
  subst hR
  by_cases ha : a = 0
  · subst ha
    rw [if_pos rfl]
    by_cases hb : b = 0
    · subst hb
      go_enter Try.func59, Try.ntmps59
      go_wp2
      refine wp_loop_rounds 3 ?_
      repeat (rw [rounds_succ]; go_wp2)
      go_ret
      exact ⟨rfl, rfl⟩
    · have hb1 : (b != 0) = true := by simpa using hb
      clear hb
      go_enter Try.func59, Try.ntmps59
      go_wp2
      refine wp_loop_rounds 3 ?_
      repeat (rw [rounds_succ]; go_wp2)
      go_ret
      exact ⟨rfl, rfl⟩
  · rw [if_neg ha]
    have ha1 : (a != 0) = true := by simpa using ha
    clear ha
    go_enter Try.func59, Try.ntmps59
    go_wp2
    refine wp_loop_rounds 3 ?_
    repeat (rw [rounds_succ]; go_wp2)
    go_ret
    exact ⟨rfl, rfl⟩
theorem compareC_any (a b : Ce) (w : World) :
    Calls Try.prog 43 #[ceVal a, ceVal b] w fun e w' => e = .returned (.int .i64 (cmpCe a b)) ∧ Below w.heap.size w w' := by
  have hR : cmpCe a b = if cmpT a.k b.k = 0 then Lib.compareInt b.q a.q else cmpT a.k b.k := rfl
  obtain ⟨R, hR2⟩ : ∃ R, cmpCe a b = R := ⟨_, rfl⟩
  rw [hR2] at hR ⊢
  clear hR2
  have c1 := fun W => (compareT_any a.k b.k W).turned
  have c2 := fun W => Try.cmp_Compare_int b.q a.q W
  have C1 := Lib.hid c1
  have C2 := Lib.hid c2
  clear c1 c2
  generalize cmpT a.k b.k = p at *
  generalize Lib.compareInt b.q a.q = q at *
  have HR := Lib.hid hR
  clear hR
  unfold ceVal
  go_enter Try.func43, Try.ntmps43
  go_wp2_with fail
  refine wp_region_tail 10 (by kernel_rfl) (by kernel_rfl) ?_
  simp only [List.take_succ_cons, List.take_zero, List.drop_succ_cons, List.drop_zero]
  repeat still_step
  still_call (C1.out _)
  repeat still_step
  still_call (C2.out _)
  refine wpStill_nil ?_
  go_wp2_with fail
  refine (orOne _ p q R _ HR.out (by go_simp) (by go_simp)).mono ?_
  rintro e w1 ⟨rfl, rfl⟩
  go_wp2_with fail
  go_ret
  exact ⟨rfl, ((((Below.refl _ _).alloc (Nat.le_refl _) _).alloc (by simp) _).alloc (by simp; omega) _).drew⟩
theorem compare_any (a b : Ce) (w : World) :
    Calls Try.prog 30 #[ceVal a, ceVal b] w fun e w' => e = .returned (.int .i64 (cmpCe a b)) ∧ Below w.heap.size w w' := by
  have c1 := fun W => compareC_any a b W
  have b0 := ((Below.refl w.heap.size w).alloc (Nat.le_refl _) (boxC a)).alloc (by simp) (boxC b)
  unfold ceVal boxC at *
  have C1 := Lib.hid c1
  clear c1
  generalize cmpCe a b = r at *
  go_enter Try.func30, Try.ntmps30
  go_wp2_with fail
  refine (C1.out _).mono ?_
  rintro e w1 ⟨rfl, hb⟩
  go_wp2_with fail
  go_ret
  exact ⟨rfl, b0.trans (hb.mono b0.size)⟩
end Go.Proofs.Ytpcapifjbhaeeaa
