/- A list of cells as an argument, opened. -/
import Derived.Test.YtpcapifjbhaeeaaBlocksB
import Derived.Test.YtpcapifjbhaeeaaOpenS
namespace Go.Proofs.Ytpcapifjbhaeeaa
set_option maxRecDepth 16000
open Go.RowKit Go.ChangeShapes Go.WideShapes Spoor Go.Opens
section
variable {H : Type} {enc : TypeId × Value → H} {w : World} {base : Nat} {spare : Nat → Bool} {held : Bool}
theorem open_cells {r : Reach} {b0 : Nat} {v : Value} {d : DataW H} {p : List MemPlace} (hv : Value.okWide Try.prog w r b0 22 v) (h : DataW.Trod enc Try.prog w base spare held 22 v d p) :
    ∃ l : List Ce, SlAt v l w ∧ (v = .slice none 0 0 ∨ ∃ ad n c, v = .slice (some ad) n c) ∧ ∀ c ∈ l, WfC c := by
  have hcell : v.cells.toList = [v] := by
    obtain ⟨a, len, cap, rfl⟩ := okWide_slice Try.underlying22 hv
    rfl
  rcases open_structs Try.underlying22 Try.underlying33 (by kernel_rfl) (by kernel_rfl) h hcell with rfl | ⟨a, len, cap, rfl, hl, hm, hi⟩
  · exact ⟨[], ⟨none, 0, rfl, by simp, by unfold maxLen; omega, fun h => by simp at h⟩, .inl rfl, by simp⟩
  · have hc : ∀ i, i < len → ∃ c : Ce, (∀ j u, (ceRow c)[j]? = some u → w.cell? (a.add (i * 3 + j)) = some u) ∧ WfC c := by
      intro i hil
      obtain ⟨cs, hcl, hat, ys, m, hyl, hf⟩ := hi i hil
      match cs, hcl, ys, hyl with
      | [c0, c1, c2], _, [y0, y1, y2], _ =>
        have t0 := hf 0 _ _ _ rfl rfl rfl
        have t1 := hf 1 _ _ _ rfl rfl rfl
        have t2 := hf 2 _ _ _ rfl rfl rfl
        obtain ⟨n0, e0, rfl, w0⟩ := DataW.trod_string Try.underlying9 t0
        obtain ⟨n1, e1, rfl, w1⟩ := DataW.trod_int Try.underlying3 t1
        obtain ⟨n2, e2, rfl, w2⟩ := DataW.trod_string Try.underlying9 t2
        simp only [List.cons.injEq, and_true] at e0 e1 e2
        subst e0 e1 e2
        have l0 : n0.data.toList.length = n0.size := by { rw [Array.length_toList]; rfl }
        have l2 : n2.data.toList.length = n2.size := by { rw [Array.length_toList]; rfl }
        have s0 : (⟨n0.data.toList.toArray⟩ : ByteArray) = n0 := by cases n0; simp
        have s2 : (⟨n2.data.toList.toArray⟩ : ByteArray) = n2 := by cases n2; simp
        refine ⟨⟨n0.data.toList, n1, n2.data.toList⟩, fun j u hj => hat j u ?_, by dsimp only; omega, by dsimp only; omega, ?_⟩
        · unfold ceRow at hj
          simp only [s0, s2] at hj
          exact hj
        · have := w1
          simp [Lit.wf] at this
          simp only
          omega
    have : Inhabited Ce := ⟨Ce.zero⟩
    obtain ⟨C, hC⟩ := Go.Deep.choose_lt hc
    have hlen : ((List.range len).map C).length = len := by simp
    have hg : ∀ i, i < len → ((List.range len).map C).getD i Ce.zero = C i := fun i hi => by simp [List.getD, hi]
    refine ⟨(List.range len).map C, ⟨some a, cap, by rw [hlen], by omega, hm, fun h => ?_⟩, .inr ⟨a, len, cap, rfl⟩, ?_⟩
    · have h0 : 0 < len := by omega
      have c00 := (hC 0 h0).1 0 _ rfl
      obtain ⟨b, o, sp⟩ := a
      have hspot : sp = none := by simpa [Addr.add] using World.cell?_spot c00
      subst hspot
      refine ⟨b, o, rfl, ?_, fun i hi j u hj => ?_⟩
      · have := World.block_lt_of_cell? _ _ c00
        simpa [Addr.add] using this
      · rw [hlen] at hi
        rw [hg i hi] at hj
        have := (hC i hi).1 j u hj
        rw [Addr.add_lit] at this
        rwa [← Nat.add_assoc] at this
    · intro c hc
      obtain ⟨i, hi, rfl⟩ := List.mem_map.1 hc
      exact (hC i (List.mem_range.1 hi)).2
end
end Go.Proofs.Ytpcapifjbhaeeaa
