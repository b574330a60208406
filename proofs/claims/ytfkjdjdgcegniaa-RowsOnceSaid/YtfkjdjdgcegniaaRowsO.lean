/- Spans, cells and lists of spans as arguments, opened. -/
import Derived.Test.YtfkjdjdgcegniaaRowsI
namespace Go.Proofs.Ytfkjdjdgcegniaa
set_option maxRecDepth 16000
open Go.RowKit Go.ChangeShapes Go.WideShapes Spoor Go.Opens
set_option linter.unusedVariables false
def WfX (x : Sp) : Prop := WfS x ∧ I64 x.st
section
variable {H : Type} {enc : TypeId × Value → H} {w : World} {base : Nat} {spare : Nat → Bool} {held : Bool}
theorem open_spanX {r : Reach} {b0 : Nat} {v : Value} {d : DataW H} {p : List MemPlace} (hv : Value.okWide Try.prog w r b0 23 v) (h : DataW.Trod enc Try.prog w base spare held 23 v d p) :
    ∃ x : Sp, v = spVal x ∧ d = spData x ∧ p = [] ∧ (x.sv.length ≤ maxLen ∧ x.ho.length ≤ maxLen ∧ x.no.length ≤ maxLen) ∧ I64 x.st := by
  obtain ⟨cs, ys, n, rfl, rfl, rfl, hc, hy, hf⟩ := open_fields Try.underlying23 (by kernel_rfl) (by kernel_rfl) hv h
  match cs, hc, ys, hy with
  | [c0, c1, c2, c3, c4, c5, c6, c7], _, [y0, y1, y2, y3, y4, y5, y6, y7], _ =>
    have t0 := hf 0 _ _ _ rfl rfl rfl
    have t1 := hf 1 _ _ _ rfl rfl rfl
    have t2 := hf 2 _ _ _ rfl rfl rfl
    have t3 := hf 3 _ _ _ rfl rfl rfl
    have t4 := hf 4 _ _ _ rfl rfl rfl
    have t5 := hf 5 _ _ _ rfl rfl rfl
    have t6 := hf 6 _ _ _ rfl rfl rfl
    have t7 := hf 7 _ _ _ rfl rfl rfl
    obtain ⟨n0, e0, rfl, w0⟩ := DataW.trod_int Try.underlying3 t0
    obtain ⟨n1, e1, rfl, w1⟩ := DataW.trod_int Try.underlying3 t1
    obtain ⟨n2, e2, rfl, w2⟩ := DataW.trod_int Try.underlying3 t2
    obtain ⟨n3, e3, rfl, w3⟩ := DataW.trod_string Try.underlying9 t3
    obtain ⟨n4, e4, rfl, w4⟩ := DataW.trod_string Try.underlying9 t4
    obtain ⟨n5, e5, rfl, w5⟩ := DataW.trod_int Try.underlying3 t5
    obtain ⟨n6, e6, rfl, w6⟩ := DataW.trod_int Try.underlying3 t6
    obtain ⟨n7, e7, rfl, w7⟩ := DataW.trod_string Try.underlying9 t7
    simp only [List.cons.injEq, and_true] at e0 e1 e2 e3 e4 e5 e6 e7
    subst e0 e1 e2 e3 e4 e5 e6 e7
    have l3 : n3.data.toList.length = n3.size := by { rw [Array.length_toList]; rfl }
    have l4 : n4.data.toList.length = n4.size := by { rw [Array.length_toList]; rfl }
    have l7 : n7.data.toList.length = n7.size := by { rw [Array.length_toList]; rfl }
    refine ⟨⟨n0, n1, n2, n3.data.toList, n4.data.toList, n5, n6, n7.data.toList⟩, ?_, rfl, rfl, ⟨by dsimp only; omega, by dsimp only; omega, by dsimp only; omega⟩, wf_i64 w5⟩
    unfold spVal
    have s3 : (⟨n3.data.toList.toArray⟩ : ByteArray) = n3 := by cases n3; simp
    have s4 : (⟨n4.data.toList.toArray⟩ : ByteArray) = n4 := by cases n4; simp
    have s7 : (⟨n7.data.toList.toArray⟩ : ByteArray) = n7 := by cases n7; simp
    rw [s3, s4, s7]
theorem open_spansX1 {v : Value} {n0 : Nat} {y : DataW H × List MemPlace} (h : DataW.trod enc Try.prog w base spare held n0 27 [v] = some y) :
    ∃ l : List Sp, SlS v l w ∧ (v = .slice none 0 0 ∨ ∃ ad n c, v = .slice (some ad) n c) ∧ ∀ c ∈ l, WfX c := by
  rcases open_structs1 Try.underlying27 Try.underlying23 (by kernel_rfl) (by kernel_rfl) h with rfl | ⟨a, len, cap, rfl, hl, hm, hi⟩
  · exact ⟨[], ⟨none, 0, rfl, by simp, by unfold maxLen; omega, fun h => by simp at h⟩, .inl rfl, by simp⟩
  · have hc : ∀ i, i < len → ∃ c : Sp, (∀ j u, (spRow c)[j]? = some u → w.cell? (a.add (i * 8 + j)) = some u) ∧ WfX c := by
      intro i hil
      obtain ⟨cs, hcl, hat, ys, m, hyl, hf⟩ := hi i hil
      match cs, hcl, ys, hyl with
      | [c0, c1, c2, c3, c4, c5, c6, c7], _, [y0, y1, y2, y3, y4, y5, y6, y7], _ =>
        have t0 := hf 0 _ _ _ rfl rfl rfl
        have t1 := hf 1 _ _ _ rfl rfl rfl
        have t2 := hf 2 _ _ _ rfl rfl rfl
        have t3 := hf 3 _ _ _ rfl rfl rfl
        have t4 := hf 4 _ _ _ rfl rfl rfl
        have t5 := hf 5 _ _ _ rfl rfl rfl
        have t6 := hf 6 _ _ _ rfl rfl rfl
        have t7 := hf 7 _ _ _ rfl rfl rfl
        obtain ⟨n0, e0, rfl, w0⟩ := DataW.trod_int Try.underlying3 t0
        obtain ⟨n1, e1, rfl, w1⟩ := DataW.trod_int Try.underlying3 t1
        obtain ⟨n2, e2, rfl, w2⟩ := DataW.trod_int Try.underlying3 t2
        obtain ⟨n3, e3, rfl, w3⟩ := DataW.trod_string Try.underlying9 t3
        obtain ⟨n4, e4, rfl, w4⟩ := DataW.trod_string Try.underlying9 t4
        obtain ⟨n5, e5, rfl, w5⟩ := DataW.trod_int Try.underlying3 t5
        obtain ⟨n6, e6, rfl, w6⟩ := DataW.trod_int Try.underlying3 t6
        obtain ⟨n7, e7, rfl, w7⟩ := DataW.trod_string Try.underlying9 t7
        simp only [List.cons.injEq, and_true] at e0 e1 e2 e3 e4 e5 e6 e7
        subst e0 e1 e2 e3 e4 e5 e6 e7
        have l3 : n3.data.toList.length = n3.size := by { rw [Array.length_toList]; rfl }
        have l4 : n4.data.toList.length = n4.size := by { rw [Array.length_toList]; rfl }
        have l7 : n7.data.toList.length = n7.size := by { rw [Array.length_toList]; rfl }
        have s3 : (⟨n3.data.toList.toArray⟩ : ByteArray) = n3 := by cases n3; simp
        have s4 : (⟨n4.data.toList.toArray⟩ : ByteArray) = n4 := by cases n4; simp
        have s7 : (⟨n7.data.toList.toArray⟩ : ByteArray) = n7 := by cases n7; simp
        refine ⟨⟨n0, n1, n2, n3.data.toList, n4.data.toList, n5, n6, n7.data.toList⟩, fun j u hj => hat j u ?_, ⟨by dsimp only; omega, by dsimp only; omega, by dsimp only; omega⟩, wf_i64 w5⟩
        unfold spRow at hj
        simp only [s3, s4, s7] at hj
        exact hj
    have : Inhabited Sp := ⟨Sp.zero⟩
    obtain ⟨C, hC⟩ := Go.Deep.choose_lt hc
    have hlen : ((List.range len).map C).length = len := by simp
    have hg : ∀ i, i < len → ((List.range len).map C).getD i Sp.zero = C i := fun i hi => by simp [List.getD, hi]
    refine ⟨(List.range len).map C, ⟨some a, cap, by rw [hlen], by omega, hm, fun h => ?_⟩, .inr ⟨a, len, cap, rfl⟩, ?_⟩
    · have h0 : 0 < len := by omega
      have c00 := (hC 0 h0).1 0 _ rfl
      obtain ⟨b, o, sp⟩ := a
      have hspot : sp = none := by simpa [Addr.add] using World.cell?_spot c00
      subst hspot
      refine ⟨b, o, rfl, ?_, fun i hi j u hj => ?_⟩
      · have := World.block_lt_of_cell? _ _ c00
        simpa [Addr.add] using this
      · rw [hlen] at hi
        rw [hg i hi] at hj
        have := (hC i hi).1 j u hj
        rw [Addr.add_lit] at this
        rwa [← Nat.add_assoc] at this
    · intro c hc
      obtain ⟨i, hi, rfl⟩ := List.mem_map.1 hc
      exact (hC i (List.mem_range.1 hi)).2
theorem open_spansX {r : Reach} {b0 : Nat} {v : Value} {d : DataW H} {p : List MemPlace} (hv : Value.okWide Try.prog w r b0 27 v) (h : DataW.Trod enc Try.prog w base spare held 27 v d p) :
    ∃ l : List Sp, SlS v l w ∧ (v = .slice none 0 0 ∨ ∃ ad n c, v = .slice (some ad) n c) ∧ ∀ c ∈ l, WfX c := by
  have hcell : v.cells.toList = [v] := by
    obtain ⟨a, len, cap, rfl⟩ := okWide_slice Try.underlying27 hv
    rfl
  obtain ⟨m, hm⟩ := h
  rw [hcell] at hm
  exact open_spansX1 hm
theorem open_cellX {r : Reach} {b0 : Nat} {v : Value} {d : DataW H} {p : List MemPlace} (hv : Value.okWide Try.prog w r b0 25 v) (h : DataW.Trod enc Try.prog w base spare held 25 v d p) :
    ∃ c : Ce, v = ceVal c ∧ WfC c := by
  obtain ⟨cs, ys, n, rfl, rfl, rfl, hc, hy, hf⟩ := open_fields Try.underlying25 (by kernel_rfl) (by kernel_rfl) hv h
  match cs, hc, ys, hy with
  | [c0, c1, c2], _, [y0, y1, y2], _ =>
    have t0 := hf 0 _ _ _ rfl rfl rfl
    have t1 := hf 1 _ _ _ rfl rfl rfl
    have t2 := hf 2 _ _ _ rfl rfl rfl
    obtain ⟨n0, e0, rfl, w0⟩ := DataW.trod_string Try.underlying9 t0
    obtain ⟨n1, e1, rfl, w1⟩ := DataW.trod_int Try.underlying3 t1
    obtain ⟨n2, e2, rfl, w2⟩ := DataW.trod_string Try.underlying9 t2
    simp only [List.cons.injEq, and_true] at e0 e1 e2
    subst e0 e1 e2
    have l0 : n0.data.toList.length = n0.size := by { rw [Array.length_toList]; rfl }
    have l2 : n2.data.toList.length = n2.size := by { rw [Array.length_toList]; rfl }
    have s0 : (⟨n0.data.toList.toArray⟩ : ByteArray) = n0 := by cases n0; simp
    have s2 : (⟨n2.data.toList.toArray⟩ : ByteArray) = n2 := by cases n2; simp
    have hw := wf_i64 w1
    refine ⟨⟨n0.data.toList, n1, n2.data.toList⟩, ?_, by dsimp only; omega, by dsimp only; omega, hw.2⟩
    unfold ceVal
    simp only [s0, s2]
end
end Go.Proofs.Ytfkjdjdgcegniaa
