/- The walk of SpansApart. -/
import Derived.Test.YtojenagpnkhgfaaSpansK
namespace Go.Proofs.Ytojenagpnkhgfaa
open Go.RowKit Spoor

def boxP (x : Sp) : Obj := .cells #[.int .i64 x.tr, .int .i64 x.id, .int .i64 x.pa, .string ⟨x.sv.toArray⟩, .string ⟨x.ho.toArray⟩, .int .i64 x.st, .int .i64 x.du, .string ⟨x.no.toArray⟩] 23
def box2 (u v : List UInt8) : Obj := .cells #[.string ⟨u.toArray⟩, .string ⟨v.toArray⟩] 32
theorem apart_boxes (x y : Sp) (u v : List UInt8) (w : World) : SpAt w.heap.size x (((w.alloc (boxP x)).alloc (boxP y)).alloc (box2 u v)) ∧ SpAt (w.heap.size + 1) y (((w.alloc (boxP x)).alloc (boxP y)).alloc (box2 u v)) ∧
    (((w.alloc (boxP x)).alloc (boxP y)).alloc (box2 u v)).heap[w.heap.size + 2]? = some (box2 u v) ∧ Below w.heap.size w (((w.alloc (boxP x)).alloc (boxP y)).alloc (box2 u v)) := by
  have k1 := ((SpAt.boxed x w).alloc' (boxP y)).alloc' (box2 u v)
  have k2 := (SpAt.boxed y (w.alloc (boxP x))).alloc' (box2 u v)
  have k3 := heap_alloc_new ((w.alloc (boxP x)).alloc (boxP y)) (box2 u v)
  rw [alloc_size] at k2
  rw [alloc_size, alloc_size] at k3
  exact ⟨k1, k2, k3, (below_new2' _ _).alloc (by rw [alloc_size, alloc_size]; omega) _⟩
theorem box2_cells {g : Nat} {u v : List UInt8} {w : World} (h : w.heap[g]? = some (box2 u v)) : w.cell? ⟨g, 0, none⟩ = some (.string ⟨u.toArray⟩) ∧ w.cell? ⟨g, 1, none⟩ = some (.string ⟨v.toArray⟩) := by
  constructor <;> (rw [cell_of_row w g _ _ _ _ h]; rfl)
theorem box2_later {B g : Nat} {u v : List UInt8} {w w' : World} (h : w.heap[g]? = some (box2 u v)) (hb : Below B w w') (hg : g < B) : w'.heap[g]? = some (box2 u v) := by rw [hb.block g hg]; exact h
theorem eql_sp (x y : Sp) (W : World) : (binOp .eql 23 (spVal x) (spVal y)).run Try.prog W = .ok (.bool (decide (x = y))) W := by
  unfold spVal
  go_simp
  obtain ⟨a1, a2, a3, a4, a5, a6, a7, a8⟩ := x
  obtain ⟨b1, b2, b3, b4, b5, b6, b7, b8⟩ := y
  simp only [Sp.mk.injEq]
  by_cases h1 : a1 = b1 <;> by_cases h2 : a2 = b2 <;> by_cases h3 : a3 = b3 <;> by_cases h4 : a4 = b4 <;> simp [*]
  by_cases h5 : a5 = b5 <;> by_cases h6 : a6 = b6 <;> by_cases h7 : a7 = b7 <;> by_cases h8 : a8 = b8 <;> simp [*]
theorem cat_ne {a b c d : List UInt8} (h : ¬ a ++ b = c ++ d) : ¬ ((⟨a.toArray⟩ : ByteArray) ++ ⟨b.toArray⟩).toList = ((⟨c.toArray⟩ : ByteArray) ++ ⟨d.toArray⟩).toList := by
  rw [ByteArray.mk_append_mk, ByteArray.mk_append_mk, ByteArray.toList_mk, ByteArray.toList_mk]
  exact h
def val2 (u v : List UInt8) : Value := .agg #[.string ⟨u.toArray⟩, .string ⟨v.toArray⟩]

section
open Go.ChangeShapes Go.WideShapes Go.Opens
variable {H : Type} {enc : TypeId × Value → H} {w : World} {base : Nat} {spare : Nat → Bool} {held : Bool}
theorem open_str2 {r : Reach} {b0 : Nat} {v : Value} {d : DataW H} {p : List MemPlace} (hv : Value.okWide Try.prog w r b0 32 v) (h : DataW.Trod enc Try.prog w base spare held 32 v d p) :
    ∃ s t : List UInt8, v = val2 s t ∧ d = .agg [.lit (.string s), .lit (.string t)] ∧ p = [] := by
  obtain ⟨cs, ys, m, rfl, rfl, rfl, hc, hy, hf⟩ := open_array1 Try.underlying32 (by kernel_rfl) (by kernel_rfl) hv h
  match cs, hc, ys, hy with
  | [c0, c1], _, [y0, y1], _ =>
    have t0 := hf 0 _ _ rfl rfl
    have t1 := hf 1 _ _ rfl rfl
    obtain ⟨n0, e0, rfl, w0⟩ := DataW.trod_string Try.underlying9 t0
    obtain ⟨n1, e1, rfl, w1⟩ := DataW.trod_string Try.underlying9 t1
    simp only [List.cons.injEq, and_true] at e0 e1
    subst e0 e1
    refine ⟨n0.data.toList, n1.data.toList, ?_, rfl, rfl⟩
    unfold val2
    have s0 : (⟨n0.data.toList.toArray⟩ : ByteArray) = n0 := by cases n0; simp
    have s1 : (⟨n1.data.toList.toArray⟩ : ByteArray) = n1 := by cases n1; simp
    rw [s0, s1]
end
end Go.Proofs.Ytojenagpnkhgfaa
