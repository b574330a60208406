/- The walk of KeysWithin. -/
import Derived.Test.YtojenagpnkhgfaaKeysI
namespace Go.Proofs.Ytojenagpnkhgfaa
open Go.RowKit Spoor

theorem bl_not {a b : List UInt8} (h : (a == b) = false) : Op.bytesLess a b = !Op.bytesLess b a := by
  rcases bl_cases a b with ⟨h1, h2, _, _⟩ | ⟨h1, h2, h3⟩ | ⟨h1, h2, _, _⟩
  · rw [h1, h2]; rfl
  · rw [h3] at h; simp at h
  · rw [h1, h2]; rfl
theorem bl_nil (a : List UInt8) : Op.bytesLess a [] = false := by cases a <;> rfl
theorem bl_prefix (p a b : List UInt8) : Op.bytesLess (p ++ a) (p ++ b) = Op.bytesLess a b := by
  rw [bl_app p p a b rfl, bl_irrefl]; simp
theorem bl_num (n m : Nat) (r : List UInt8) (hn : n ≤ 9223372036854775807) (hm : m ≤ 9223372036854775807) : Op.bytesLess (big n ++ r) (big m) = decide (n < m) := by
  have := bl_app (big n) (big m) r [] (by rw [big_length, big_length])
  rw [List.append_nil, bl_nil, Bool.and_false, Bool.or_false, big_less _ _ hn hm] at this
  rw [this, decide_eq_decide]; omega
theorem ne_len {a b : List UInt8} (h : a.length ≠ b.length) : (a == b) = false := by
  rw [beq_eq_false_iff_ne]; intro e; exact h (by rw [e])
theorem within_trace {x : Sp} (hx : x.ok = true) (t : Int) : ((traceK t).1 == sKey x.tr x.id) = false ∧ (Op.bytesLess (traceK t).1 (sKey x.tr x.id) && Op.bytesLess (sKey x.tr x.id) (traceK t).2) = (t == x.tr) := by
  obtain ⟨⟨a1, a2⟩, _⟩ := ok_of hx
  unfold traceK
  by_cases h : idOk t = true
  · rw [if_pos h]
    obtain ⟨b1, b2⟩ := idOk_of h
    have hne : ((115 :: big t.toNat) == sKey x.tr x.id) = false := ne_len (by rw [sKey_length]; simp [big_length])
    refine ⟨hne, ?_⟩
    simp only
    rw [bl_not hne, sKey, cons_less, cons_less, bl_num _ _ _ (by omega) (by omega), bl_num _ _ _ (by omega) (by omega), Bool.eq_iff_iff]
    simp
    omega
  · rw [if_neg h]
    refine ⟨ne_len (by rw [sKey_length]; simp), ?_⟩
    simp only
    rw [bl_nil, Bool.and_false]
    symm
    rw [beq_eq_false_iff_ne]
    intro e
    apply h
    subst e
    simp [idOk, *]
theorem xKey_split (sv ho : List UInt8) (st tr id : Int) : xKey sv ho st tr id = aheadK sv ho ++ (big st.toNat ++ (big tr.toNat ++ big id.toNat)) := by
  rw [xKey_ahead]; simp
theorem aheadK_length (sv ho : List UInt8) : (aheadK sv ho).length = 3 + sv.length + ho.length := by simp [aheadK]; omega
theorem within_own {x : Sp} (hx : x.ok = true) (s0 s1 : Int) : ((stretchK x.sv x.ho s0 s1).1 == xKey x.sv x.ho x.st x.tr x.id) = false ∧
    (Op.bytesLess (stretchK x.sv x.ho s0 s1).1 (xKey x.sv x.ho x.st x.tr x.id) && Op.bytesLess (xKey x.sv x.ho x.st x.tr x.id) (stretchK x.sv x.ho s0 s1).2) = (decide (s0 ≤ x.st) && decide (x.st ≤ s1)) := by
  obtain ⟨_, _, _, ⟨c1, c2⟩, _, f, g, _⟩ := ok_of hx
  unfold stretchK
  rw [f, g]
  by_cases h : max s0 0 ≤ min s1 1073741824
  · rw [decide_eq_true h]
    simp only [Bool.and_self, if_true]
    have hne : ((aheadK x.sv x.ho ++ big (max s0 0).toNat) == xKey x.sv x.ho x.st x.tr x.id) = false := ne_len (by rw [xKey_split]; simp [big_length])
    refine ⟨hne, ?_⟩
    rw [bl_not hne, xKey_split, bl_prefix, bl_prefix, bl_num _ _ _ (by omega) (by omega), bl_num _ _ _ (by omega) (by omega), Bool.eq_iff_iff]
    simp
    omega
  · rw [decide_eq_false h]
    simp only [Bool.false_and, Bool.false_eq_true, if_false]
    refine ⟨ne_len (by rw [xKey_split]; simp [big_length]), ?_⟩
    rw [bl_nil, Bool.and_false]
    symm
    rw [Bool.eq_false_iff]
    simp
    omega
theorem within_other {x : Sp} (hx : x.ok = true) (s0 s1 : Int) : ((stretchK x.ho x.sv s0 s1).1 == xKey x.sv x.ho x.st x.tr x.id) = false ∧
    (Op.bytesLess (stretchK x.ho x.sv s0 s1).1 (xKey x.sv x.ho x.st x.tr x.id) && Op.bytesLess (xKey x.sv x.ho x.st x.tr x.id) (stretchK x.ho x.sv s0 s1).2) = ((decide (s0 ≤ x.st) && decide (x.st ≤ s1)) && (x.ho == x.sv)) := by
  by_cases e : x.ho = x.sv
  · have := within_own hx s0 s1
    rw [e] at this ⊢
    rw [beq_self_eq_true, Bool.and_true]
    exact this
  · have he : (x.ho == x.sv) = false := by rw [beq_eq_false_iff_ne]; exact e
    rw [he, Bool.and_false]
    obtain ⟨_, _, _, ⟨c1, c2⟩, _, f, g, _⟩ := ok_of hx
    unfold stretchK
    rw [f, g]
    by_cases h : max s0 0 ≤ min s1 1073741824
    · rw [decide_eq_true h]
      simp only [Bool.and_self, if_true]
      have hne : ((aheadK x.ho x.sv ++ big (max s0 0).toNat) == xKey x.sv x.ho x.st x.tr x.id) = false := ne_len (by rw [xKey_split, List.length_append, List.length_append, aheadK_length, aheadK_length]; simp only [List.length_append, big_length]; omega)
      refine ⟨hne, ?_⟩
      have hap : ∀ r : List UInt8, aheadK x.ho x.sv ++ r = 120 :: (x.ho ++ 0 :: (x.sv ++ 0 :: r)) := fun r => by simp [aheadK]
      have hsv : (x.sv == x.ho) = false := by rw [beq_eq_false_iff_ne]; exact fun e' => e e'.symm
      rw [bl_not hne, xKey, hap, hap, cons_less, cons_less, bl_names _ _ _ _ (nz_name f) (nz_name g), bl_names _ _ _ _ (nz_name f) (nz_name g), hsv, Bool.false_and, Bool.false_and, Bool.or_false]
      cases Op.bytesLess x.sv x.ho <;> rfl
    · rw [decide_eq_false h]
      simp only [Bool.false_and, Bool.false_eq_true, if_false]
      refine ⟨ne_len (by rw [xKey_split]; simp [big_length]), ?_⟩
      rw [bl_nil, Bool.and_false]

def boxI (a b : Int) : Obj := .cells #[.int .i64 a, .int .i64 b] 52
def IiAt (g : Nat) (a b : Int) (w : World) : Prop := w.heap[g]? = some (boxI a b)
theorem IiAt.cell {g : Nat} {a b : Int} {w : World} (h : IiAt g a b w) : w.cell? ⟨g, 0, none⟩ = some (.int .i64 a) ∧ w.cell? ⟨g, 1, none⟩ = some (.int .i64 b) := by
  constructor <;> (rw [cell_of_row w g _ _ _ _ h]; rfl)
theorem IiAt.later {B g : Nat} {a b : Int} {w w' : World} (h : IiAt g a b w) (hb : Below B w w') (hg : g < B) : IiAt g a b w' := by unfold IiAt; rw [hb.block g hg]; exact h
theorem IiAt.lt {g : Nat} {a b : Int} {w : World} (h : IiAt g a b w) : g < w.heap.size := (Array.getElem?_eq_some_iff.1 h).1
theorem within_boxes (x : Sp) (a b : Int) (w : World) : SpAt w.heap.size x ((w.alloc (boxP x)).alloc (boxI a b)) ∧ IiAt (w.heap.size + 1) a b ((w.alloc (boxP x)).alloc (boxI a b)) ∧ Below w.heap.size w ((w.alloc (boxP x)).alloc (boxI a b)) := by
  have k1 := (SpAt.boxed x w).alloc' (boxI a b)
  have k2 := heap_alloc_new (w.alloc (boxP x)) (boxI a b)
  rw [alloc_size] at k2
  exact ⟨k1, k2, below_new2' _ _⟩
def val2i (a b : Int) : Value := .agg #[.int .i64 a, .int .i64 b]
theorem keysWithin_g (x : Sp) (t s0 s1 : Int) (w : World) (hf : Fits x) (hg : greatK x = true) :
    Calls Try.prog 8 #[spVal x, .int .i64 t, val2i s0 s1] w fun e w' => e = .returned (.bool true) ∧ Below w.heap.size w w' := by
  have cg := fun W => greatK_any x W hf
  have cc := fun W => check_any x W hf
  obtain ⟨q1, q2, B⟩ := within_boxes x s0 s1 w
  have CD := Lib.hid kdoes_true
  rw [hg] at cg
  clear hg
  unfold spVal at *
  unfold boxP val2i boxI at *
  have CG := Lib.hid cg
  have CC := Lib.hid cc
  clear cg cc
  go_enter Try.func8, Try.ntmps8
  go_wp2_with fail
  generalize (w.alloc _).alloc _ = w0 at *
  obtain ⟨a0, a1, a2, a3, a4, a5, a6, a7⟩ := q1.cell
  try dsimp only at a0 a1 a2 a3 a4 a5 a6 a7
  obtain ⟨d0, d1⟩ := q2.cell
  try dsimp only at d0 d1
  go_wp2_with fail
  refine (CG.out _).mono ?_
  rintro e1 w1 ⟨rfl, b1⟩
  clear a0 a1 a2 a3 a4 a5 a6 a7
  clear d0 d1
  have q1 := q1.later b1 q1.lt
  have q2 := q2.later b1 q2.lt
  have B := bt B b1
  clear b1
  obtain ⟨a0, a1, a2, a3, a4, a5, a6, a7⟩ := q1.cell
  try dsimp only at a0 a1 a2 a3 a4 a5 a6 a7
  obtain ⟨d0, d1⟩ := q2.cell
  try dsimp only at d0 d1
  go_wp2_with fail
  refine (CD.out _).mono ?_
  rintro e2 w2 ⟨rfl, b2⟩
  clear a0 a1 a2 a3 a4 a5 a6 a7
  clear d0 d1
  have q1 := q1.later b2 q1.lt
  have q2 := q2.later b2 q2.lt
  have B := bt B b2
  clear b2
  obtain ⟨a0, a1, a2, a3, a4, a5, a6, a7⟩ := q1.cell
  try dsimp only at a0 a1 a2 a3 a4 a5 a6 a7
  obtain ⟨d0, d1⟩ := q2.cell
  try dsimp only at d0 d1
  go_wp2_with fail
  go_ret
  exact ⟨rfl, B⟩
theorem keysWithin_b (x : Sp) (t s0 s1 : Int) (w : World) (hf : Fits x) (hg : greatK x = false) (hx : x.ok = false) :
    Calls Try.prog 8 #[spVal x, .int .i64 t, val2i s0 s1] w fun e w' => e = .returned (.bool true) ∧ Below w.heap.size w w' := by
  have cg := fun W => greatK_any x W hf
  have cc := fun W => check_any x W hf
  obtain ⟨q1, q2, B⟩ := within_boxes x s0 s1 w
  have CD := Lib.hid kdoes_true
  rw [hg] at cg
  rw [checkV_no hx] at cc
  clear hg hx
  unfold spVal at *
  unfold boxP val2i boxI at *
  have CG := Lib.hid cg
  have CC := Lib.hid cc
  clear cg cc
  go_enter Try.func8, Try.ntmps8
  go_wp2_with fail
  generalize (w.alloc _).alloc _ = w0 at *
  obtain ⟨a0, a1, a2, a3, a4, a5, a6, a7⟩ := q1.cell
  try dsimp only at a0 a1 a2 a3 a4 a5 a6 a7
  obtain ⟨d0, d1⟩ := q2.cell
  try dsimp only at d0 d1
  go_wp2_with fail
  refine (CG.out _).mono ?_
  rintro e1 w1 ⟨rfl, b1⟩
  clear a0 a1 a2 a3 a4 a5 a6 a7
  clear d0 d1
  have q1 := q1.later b1 q1.lt
  have q2 := q2.later b1 q2.lt
  have B := bt B b1
  clear b1
  obtain ⟨a0, a1, a2, a3, a4, a5, a6, a7⟩ := q1.cell
  try dsimp only at a0 a1 a2 a3 a4 a5 a6 a7
  obtain ⟨d0, d1⟩ := q2.cell
  try dsimp only at d0 d1
  go_wp2_with fail
  refine (CC.out _).mono ?_
  rintro e2 w2 ⟨rfl, b2⟩
  clear a0 a1 a2 a3 a4 a5 a6 a7
  clear d0 d1
  have q1 := q1.later b2 q1.lt
  have q2 := q2.later b2 q2.lt
  have B := bt B b2
  clear b2
  obtain ⟨a0, a1, a2, a3, a4, a5, a6, a7⟩ := q1.cell
  try dsimp only at a0 a1 a2 a3 a4 a5 a6 a7
  obtain ⟨d0, d1⟩ := q2.cell
  try dsimp only at d0 d1
  go_wp2_with fail
  refine (CD.out _).mono ?_
  rintro e3 w3 ⟨rfl, b3⟩
  clear a0 a1 a2 a3 a4 a5 a6 a7
  clear d0 d1
  have q1 := q1.later b3 q1.lt
  have q2 := q2.later b3 q2.lt
  have B := bt B b3
  clear b3
  obtain ⟨a0, a1, a2, a3, a4, a5, a6, a7⟩ := q1.cell
  try dsimp only at a0 a1 a2 a3 a4 a5 a6 a7
  obtain ⟨d0, d1⟩ := q2.cell
  try dsimp only at d0 d1
  go_wp2_with fail
  go_ret
  exact ⟨rfl, B⟩
end Go.Proofs.Ytojenagpnkhgfaa
