/- Batches and acks as arguments, opened. -/
import Derived.Test.YtheeekmhmbkncaaPostsF
import Derived.Test.YtheeekmhmbkncaaOpenS
namespace Go.Opens
open Go.ChangeShapes Go.WideShapes Go.Deep
section
variable {H : Type} {enc : TypeId × Value → H} {P : Program} {w : World} {base : Nat} {spare : Nat → Bool} {held : Bool}
/-- every element of a slice of structs that is a field -/
theorem open_structs1 {t e : TypeId} {fs : Array Field} {v : Value} {n0 : Nat} {y : DataW H × List MemPlace} (ht : P.underlying t = some (.slice e)) (hs : P.underlying e = some (.struct fs)) (hone : oneCellFields P fs = true) (hC : P.cellsOf e = fs.size)
    (hf : DataW.trod enc P w base spare held n0 t [v] = some y) :
    v = .slice none 0 0 ∨ ∃ (a : Addr) (len cap : Nat), v = .slice (some a) len cap ∧ len ≤ cap ∧ cap ≤ maxLen ∧
      ∀ i, i < len → ∃ cs : List Value, cs.length = fs.size ∧ (∀ j u, cs[j]? = some u → w.cell? (a.add (i * fs.size + j)) = some u) ∧
        ∃ (ys : List (DataW H × List MemPlace)) (m : Nat), ys.length = fs.size ∧ ∀ (j : Nat) (f : Field) (c : Value) (y : DataW H × List MemPlace), fs[j]? = some f → cs[j]? = some c → ys[j]? = some y → DataW.trod enc P w base spare held m f.type [c] = some y := by
  rcases open_slice ht hf with ⟨h1, _⟩ | ⟨a, len, cap, m, n, D, Pl, h1, _, hl, hm, hmm, _, hi⟩
  · simp only [List.cons.injEq, and_true] at h1
    exact .inl h1
  · simp only [List.cons.injEq, and_true] at h1
    refine .inr ⟨a, len, cap, h1, hl, hm, fun i hil => ?_⟩
    obtain ⟨cs, hc, ht'⟩ := hi i (by rw [hmm]; split <;> omega)
    rw [hC] at hc
    obtain ⟨_, hcl, hat⟩ := World.cells?_some hc
    refine ⟨cs, hcl, fun j u hj => ?_, elem_fields hs hone hcl ht'⟩
    have hjl : j < fs.size := by
      have := (List.getElem?_eq_some_iff.1 hj).1
      omega
    rw [← Go.Deep.add_add, hat j hjl]
    exact hj
/-- the elements of an array of structs -/
theorem open_array_structs {r : Reach} {b0 : Nat} {t : TypeId} {n : Nat} {e : TypeId} {fs : Array Field} {v : Value} {d : DataW H} {p : List MemPlace} (hs : P.underlying t = some (.array n e)) (he : P.underlying e = some (.struct fs)) (hone : oneCellFields P fs = true) (hC : P.cellsOf e = fs.size) (hT : P.cellsOf t = n * fs.size)
    (hv : Value.okWide P w r b0 t v) (h : DataW.Trod enc P w base spare held t v d p) :
    ∃ cs : List Value, v = .agg cs.toArray ∧ cs.length = n * fs.size ∧ ∀ i, i < n → ∃ (ys : List (DataW H × List MemPlace)) (m : Nat), ys.length = fs.size ∧ ∀ (j : Nat) (f : Field) (c : Value) (y : DataW H × List MemPlace), fs[j]? = some f → ((cs.drop (i * fs.size)).take fs.size)[j]? = some c → ys[j]? = some y → DataW.trod enc P w base spare held m f.type [c] = some y := by
  obtain ⟨cs, rfl, hsz⟩ := okWide_array hs hv
  obtain ⟨fuel, hf⟩ := h
  obtain ⟨xs, m, _, hx, _, hlen, hg⟩ := DataW.trod_array hs hf
  have hl : cs.toList.length = n * fs.size := by simpa using hsz.trans hT
  refine ⟨cs.toList, by simp, hl, fun i hi => ?_⟩
  have h1 := hg i hi
  rw [hC] at h1
  have hcl : ((cs.toList.drop (i * fs.size)).take fs.size).length = fs.size := by
    rw [List.length_take, List.length_drop, hl]
    have : i * fs.size + fs.size ≤ n * fs.size := by rw [← Nat.succ_mul]; exact Nat.mul_le_mul_right _ hi
    omega
  obtain ⟨x, hx2⟩ : ∃ x, xs[i]? = some x := ⟨xs[i]'(by omega), List.getElem?_eq_getElem (by omega)⟩
  rw [hx2] at h1
  exact elem_fields he hone hcl h1
end
end Go.Opens
namespace Go.Proofs.Ytheeekmhmbkncaa
open Go.RowKit Go.ChangeShapes Go.WideShapes Spoor Go.Opens
section
variable {H : Type} {enc : TypeId × Value → H} {w : World} {base : Nat} {spare : Nat → Bool} {held : Bool}
/-- an ack's numbers are numbers -/
def WfA (a : Ak) : Prop := (-9223372036854775808 ≤ a.ho ∧ a.ho ≤ 9223372036854775807) ∧ (-9223372036854775808 ≤ a.fi ∧ a.fi ≤ 9223372036854775807) ∧ (-9223372036854775808 ≤ a.ne ∧ a.ne ≤ 9223372036854775807)
theorem wf_i64 {n : Int} (h : (Lit.int IntKind.i64 n).wf = true) : -9223372036854775808 ≤ n ∧ n ≤ 9223372036854775807 := by
  simpa [Lit.wf, IntKind.min, IntKind.max, IntKind.signed, IntKind.bits] using h
theorem open_ack {r : Reach} {b0 : Nat} {v : Value} {d : DataW H} {p : List MemPlace} (hv : Value.okWide Try.prog w r b0 26 v) (h : DataW.Trod enc Try.prog w base spare held 26 v d p) :
    ∃ a : Ak, v = akVal a ∧ WfA a := by
  obtain ⟨cs, ys, n, rfl, rfl, rfl, hc, hy, hf⟩ := open_fields Try.underlying26 (by kernel_rfl) (by kernel_rfl) hv h
  match cs, hc, ys, hy with
  | [c0, c1, c2], _, [y0, y1, y2], _ =>
    have t0 := hf 0 _ _ _ rfl rfl rfl
    have t1 := hf 1 _ _ _ rfl rfl rfl
    have t2 := hf 2 _ _ _ rfl rfl rfl
    obtain ⟨n0, e0, rfl, w0⟩ := DataW.trod_int Try.underlying3 t0
    obtain ⟨n1, e1, rfl, w1⟩ := DataW.trod_int Try.underlying3 t1
    obtain ⟨n2, e2, rfl, w2⟩ := DataW.trod_int Try.underlying3 t2
    simp only [List.cons.injEq, and_true] at e0 e1 e2
    subst e0 e1 e2
    exact ⟨⟨n0, n1, n2⟩, rfl, wf_i64 w0, wf_i64 w1, wf_i64 w2⟩
def ak2Val (a b : Ak) : Value := .agg #[.int .i64 a.ho, .int .i64 a.fi, .int .i64 a.ne, .int .i64 b.ho, .int .i64 b.fi, .int .i64 b.ne]
theorem open_ack2 {r : Reach} {b0 : Nat} {v : Value} {d : DataW H} {p : List MemPlace} (hv : Value.okWide Try.prog w r b0 44 v) (h : DataW.Trod enc Try.prog w base spare held 44 v d p) :
    ∃ a b : Ak, v = ak2Val a b ∧ WfA a ∧ WfA b := by
  obtain ⟨cs, rfl, hc, hi⟩ := open_array_structs Try.underlying44 Try.underlying26 (by kernel_rfl) (by kernel_rfl) (by kernel_rfl) hv h
  obtain ⟨ys, m, hy, hf⟩ := hi 0 (by omega)
  obtain ⟨zs, m2, hz, hg⟩ := hi 1 (by omega)
  match cs, hc, ys, hy, zs, hz with
  | [c0, c1, c2, c3, c4, c5], _, [y0, y1, y2], _, [z0, z1, z2], _ =>
    have t0 := hf 0 _ _ _ rfl rfl rfl
    have t1 := hf 1 _ _ _ rfl rfl rfl
    have t2 := hf 2 _ _ _ rfl rfl rfl
    have t3 := hg 0 _ _ _ rfl rfl rfl
    have t4 := hg 1 _ _ _ rfl rfl rfl
    have t5 := hg 2 _ _ _ rfl rfl rfl
    obtain ⟨n0, e0, rfl, w0⟩ := DataW.trod_int Try.underlying3 t0
    obtain ⟨n1, e1, rfl, w1⟩ := DataW.trod_int Try.underlying3 t1
    obtain ⟨n2, e2, rfl, w2⟩ := DataW.trod_int Try.underlying3 t2
    obtain ⟨n3, e3, rfl, w3⟩ := DataW.trod_int Try.underlying3 t3
    obtain ⟨n4, e4, rfl, w4⟩ := DataW.trod_int Try.underlying3 t4
    obtain ⟨n5, e5, rfl, w5⟩ := DataW.trod_int Try.underlying3 t5
    simp only [List.cons.injEq, and_true] at e0 e1 e2 e3 e4 e5
    subst e0 e1 e2 e3 e4 e5
    exact ⟨⟨n0, n1, n2⟩, ⟨n3, n4, n5⟩, rfl, ⟨wf_i64 w0, wf_i64 w1, wf_i64 w2⟩, wf_i64 w3, wf_i64 w4, wf_i64 w5⟩
/-- a span's texts are texts -/
def WfS (x : Sp) : Prop := (x.sv.length ≤ maxLen ∧ x.ho.length ≤ maxLen ∧ x.no.length ≤ maxLen)
theorem open_spans1 {v : Value} {n0 : Nat} {y : DataW H × List MemPlace} (h : DataW.trod enc Try.prog w base spare held n0 22 [v] = some y) :
    ∃ l : List Sp, SlS v l w ∧ (v = .slice none 0 0 ∨ ∃ ad n c, v = .slice (some ad) n c) ∧ ∀ c ∈ l, WfS c := by
  rcases open_structs1 Try.underlying22 Try.underlying29 (by kernel_rfl) (by kernel_rfl) h with rfl | ⟨a, len, cap, rfl, hl, hm, hi⟩
  · exact ⟨[], ⟨none, 0, rfl, by simp, by unfold maxLen; omega, fun h => by simp at h⟩, .inl rfl, by simp⟩
  · have hc : ∀ i, i < len → ∃ c : Sp, (∀ j u, (spRow c)[j]? = some u → w.cell? (a.add (i * 8 + j)) = some u) ∧ WfS c := by
      intro i hil
      obtain ⟨cs, hcl, hat, ys, m, hyl, hf⟩ := hi i hil
      match cs, hcl, ys, hyl with
      | [c0, c1, c2, c3, c4, c5, c6, c7], _, [y0, y1, y2, y3, y4, y5, y6, y7], _ =>
        have t0 := hf 0 _ _ _ rfl rfl rfl
        have t1 := hf 1 _ _ _ rfl rfl rfl
        have t2 := hf 2 _ _ _ rfl rfl rfl
        have t3 := hf 3 _ _ _ rfl rfl rfl
        have t4 := hf 4 _ _ _ rfl rfl rfl
        have t5 := hf 5 _ _ _ rfl rfl rfl
        have t6 := hf 6 _ _ _ rfl rfl rfl
        have t7 := hf 7 _ _ _ rfl rfl rfl
        obtain ⟨n0, e0, rfl, w0⟩ := DataW.trod_int Try.underlying3 t0
        obtain ⟨n1, e1, rfl, w1⟩ := DataW.trod_int Try.underlying3 t1
        obtain ⟨n2, e2, rfl, w2⟩ := DataW.trod_int Try.underlying3 t2
        obtain ⟨n3, e3, rfl, w3⟩ := DataW.trod_string Try.underlying9 t3
        obtain ⟨n4, e4, rfl, w4⟩ := DataW.trod_string Try.underlying9 t4
        obtain ⟨n5, e5, rfl, w5⟩ := DataW.trod_int Try.underlying3 t5
        obtain ⟨n6, e6, rfl, w6⟩ := DataW.trod_int Try.underlying3 t6
        obtain ⟨n7, e7, rfl, w7⟩ := DataW.trod_string Try.underlying9 t7
        simp only [List.cons.injEq, and_true] at e0 e1 e2 e3 e4 e5 e6 e7
        subst e0 e1 e2 e3 e4 e5 e6 e7
        have l3 : n3.data.toList.length = n3.size := by { rw [Array.length_toList]; rfl }
        have l4 : n4.data.toList.length = n4.size := by { rw [Array.length_toList]; rfl }
        have l7 : n7.data.toList.length = n7.size := by { rw [Array.length_toList]; rfl }
        have s3 : (⟨n3.data.toList.toArray⟩ : ByteArray) = n3 := by cases n3; simp
        have s4 : (⟨n4.data.toList.toArray⟩ : ByteArray) = n4 := by cases n4; simp
        have s7 : (⟨n7.data.toList.toArray⟩ : ByteArray) = n7 := by cases n7; simp
        refine ⟨⟨n0, n1, n2, n3.data.toList, n4.data.toList, n5, n6, n7.data.toList⟩, fun j u hj => hat j u ?_, by dsimp only; omega, by dsimp only; omega, by dsimp only; omega⟩
        unfold spRow at hj
        simp only [s3, s4, s7] at hj
        exact hj
    have : Inhabited Sp := ⟨Sp.zero⟩
    obtain ⟨C, hC⟩ := Go.Deep.choose_lt hc
    have hlen : ((List.range len).map C).length = len := by simp
    have hg : ∀ i, i < len → ((List.range len).map C).getD i Sp.zero = C i := fun i hi => by simp [List.getD, hi]
    refine ⟨(List.range len).map C, ⟨some a, cap, by rw [hlen], by omega, hm, fun h => ?_⟩, .inr ⟨a, len, cap, rfl⟩, ?_⟩
    · have h0 : 0 < len := by omega
      have c00 := (hC 0 h0).1 0 _ rfl
      obtain ⟨b, o, sp⟩ := a
      have hspot : sp = none := by simpa [Addr.add] using World.cell?_spot c00
      subst hspot
      refine ⟨b, o, rfl, ?_, fun i hi j u hj => ?_⟩
      · have := World.block_lt_of_cell? _ _ c00
        simpa [Addr.add] using this
      · rw [hlen] at hi
        rw [hg i hi] at hj
        have := (hC i hi).1 j u hj
        rw [Addr.add_lit] at this
        rwa [← Nat.add_assoc] at this
    · intro c hc
      obtain ⟨i, hi, rfl⟩ := List.mem_map.1 hc
      exact (hC i (List.mem_range.1 hi)).2
def WfB (b : Ba) : Prop := ∀ x ∈ b.sp, WfS x
theorem open_batch {r : Reach} {b0 : Nat} {v : Value} {d : DataW H} {p : List MemPlace} (hv : Value.okWide Try.prog w r b0 24 v) (h : DataW.Trod enc Try.prog w base spare held 24 v d p) :
    ∃ (b : Ba) (s : Value), v = baVal b s ∧ SlS s b.sp w ∧ (s = .slice none 0 0 ∨ ∃ ad n c, s = .slice (some ad) n c) ∧ WfB b := by
  obtain ⟨cs, ys, n, rfl, rfl, rfl, hc, hy, hf⟩ := open_fields Try.underlying24 (by kernel_rfl) (by kernel_rfl) hv h
  match cs, hc, ys, hy with
  | [c0, c1, c2], _, [y0, y1, y2], _ =>
    have t0 := hf 0 _ _ _ rfl rfl rfl
    have t1 := hf 1 _ _ _ rfl rfl rfl
    have t2 := hf 2 _ _ _ rfl rfl rfl
    obtain ⟨n0, e0, rfl, w0⟩ := DataW.trod_int Try.underlying3 t0
    obtain ⟨n1, e1, rfl, w1⟩ := DataW.trod_int Try.underlying3 t1
    obtain ⟨l, hl, hn, hw⟩ := open_spans1 t2
    simp only [List.cons.injEq, and_true] at e0 e1
    subst e0 e1
    exact ⟨⟨n0, n1, l⟩, c2, rfl, hl, hn, hw⟩
end
end Go.Proofs.Ytheeekmhmbkncaa
