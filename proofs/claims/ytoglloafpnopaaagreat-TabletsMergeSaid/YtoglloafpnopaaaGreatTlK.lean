/- The laws' data as an argument, opened. -/
import Derived.Test.YtoglloafpnopaaaGreatTC
import Derived.Test.YtoglloafpnopaaaGreatTlJ
set_option linter.unusedSimpArgs false
set_option linter.unusedVariables false
namespace Go.Proofs.YtoglloafpnopaaaGreat
set_option maxRecDepth 16000
open Go.RowKit Go.ChangeShapes Go.WideShapes Spoor Go.Opens Go.Deep
section
variable {H : Type} {enc : TypeId × Value → H} {w : World} {base : Nat} {spare : Nat → Bool} {held : Bool}
theorem open_cells1 {n : Nat} {v : Value} {y : DataW H × List MemPlace} (hf : DataW.trod enc Tryz.prog w base spare held n 22 [v] = some y) :
 ∃ l : List Ce, SlAt v l w ∧ (∃ A n c, v = .slice A n c) ∧ ∀ c ∈ l, WfC c := by
 have hsh : ∃ A n c, v = .slice A n c := by
  rcases open_slice Tryz.underlying22 hf with ⟨h1, _⟩ | ⟨a, len, cap, m, n, D, Pl, h1, _⟩
  · simp only [List.cons.injEq, and_true] at h1
    exact ⟨_, _, _, h1⟩
  · simp only [List.cons.injEq, and_true] at h1
    exact ⟨_, _, _, h1⟩
 have hcell : v.cells.toList = [v] := by
  obtain ⟨A, n, c, rfl⟩ := hsh
  rfl
 have h : DataW.Trod enc Tryz.prog w base spare held 22 v y.1 y.2 := ⟨n, by rw [hcell]; exact hf⟩
 rcases open_structs Tryz.underlying22 Tryz.underlying38 (by kernel_rfl) (by kernel_rfl) h hcell with rfl | ⟨a, len, cap, rfl, hl, hm, hi⟩
 · exact ⟨[], ⟨none, 0, rfl, by simp, by unfold maxLen; omega, fun h => by simp at h⟩, hsh, by simp⟩
 · have hc : ∀ i, i < len → ∃ c : Ce, (∀ j u, (ceRow c)[j]? = some u → w.cell? (a.add (i * 3 + j)) = some u) ∧ WfC c := by
    intro i hil
    obtain ⟨cs, hcl, hat, ys, m, hyl, hf⟩ := hi i hil
    match cs, hcl, ys, hyl with
    | [c0, c1, c2], _, [y0, y1, y2], _ =>
      have t0 := hf 0 _ _ _ rfl rfl rfl
      have t1 := hf 1 _ _ _ rfl rfl rfl
      have t2 := hf 2 _ _ _ rfl rfl rfl
      obtain ⟨n0, e0, rfl, w0⟩ := DataW.trod_string Tryz.underlying9 t0
      obtain ⟨n1, e1, rfl, w1⟩ := DataW.trod_int Tryz.underlying3 t1
      obtain ⟨n2, e2, rfl, w2⟩ := DataW.trod_string Tryz.underlying9 t2
      simp only [List.cons.injEq, and_true] at e0 e1 e2
      subst e0 e1 e2
      have l0 : n0.data.toList.length = n0.size := by { rw [Array.length_toList]; rfl }
      have l2 : n2.data.toList.length = n2.size := by { rw [Array.length_toList]; rfl }
      have s0 : (⟨n0.data.toList.toArray⟩ : ByteArray) = n0 := by cases n0; simp
      have s2 : (⟨n2.data.toList.toArray⟩ : ByteArray) = n2 := by cases n2; simp
      refine ⟨⟨n0.data.toList, n1, n2.data.toList⟩, fun j u hj => hat j u ?_, by dsimp only; omega, by dsimp only; omega, ?_⟩
      · unfold ceRow at hj
        simp only [s0, s2] at hj
        exact hj
      · have := w1
        simp [Lit.wf] at this
        simp only
        omega
   have : Inhabited Ce := ⟨Ce.zero⟩
   obtain ⟨C, hC⟩ := Go.Deep.choose_lt hc
   have hlen : ((List.range len).map C).length = len := by simp
   have hg : ∀ i, i < len → ((List.range len).map C).getD i Ce.zero = C i := fun i hi => by simp [List.getD, hi]
   refine ⟨(List.range len).map C, ⟨some a, cap, by rw [hlen], by omega, hm, fun h => ?_⟩, hsh, ?_⟩
   · have h0 : 0 < len := by omega
     have c00 := (hC 0 h0).1 0 _ rfl
     obtain ⟨b, o, sp⟩ := a
     have hspot : sp = none := by simpa [Addr.add] using World.cell?_spot c00
     subst hspot
     refine ⟨b, o, rfl, ?_, fun i hi j u hj => ?_⟩
     · have := World.block_lt_of_cell? _ _ c00
       simpa [Addr.add] using this
     · rw [hlen] at hi
       rw [hg i hi] at hj
       have := (hC i hi).1 j u hj
       rw [Addr.add_lit] at this
       rwa [← Nat.add_assoc] at this
   · intro c hc
     obtain ⟨i, hi, rfl⟩ := List.mem_map.1 hc
     exact (hC i (List.mem_range.1 hi)).2
theorem open_rows1 {n : Nat} {v : Value} {y : DataW H × List MemPlace} (hf : DataW.trod enc Tryz.prog w base spare held n 23 [v] = some y) :
 ∃ Rs : List (List Ce), RowsIn v Rs w ∧ (∃ A n c, v = .slice A n c) ∧ ∀ r ∈ Rs, ∀ c ∈ r, WfC c := by
 rcases open_slice Tryz.underlying23 hf with ⟨h1, _⟩ | ⟨a, len, cap, m, n, D, Pl, h1, _, hl, hm, hmm, _, hi⟩
 · simp only [List.cons.injEq, and_true] at h1
   subst h1
   exact ⟨[], ⟨none, 0, rfl, by simp, by unfold maxLen; omega, fun k hk => by simp at hk⟩, ⟨_, _, _, rfl⟩, by simp⟩
 · simp only [List.cons.injEq, and_true] at h1
   subst h1
   have hC : Tryz.prog.cellsOf 22 = 1 := by kernel_rfl
   have hc : ∀ i, i < len → ∃ x : Value × List Ce, w.cell? (a.add i) = some x.1 ∧ SlAt x.1 x.2 w ∧ ∀ c ∈ x.2, WfC c := by
    intro i hil
    obtain ⟨cs, hcs, ht'⟩ := hi i (by rw [hmm]; split <;> omega)
    rw [hC] at hcs
    obtain ⟨_, hcl, hat⟩ := World.cells?_some hcs
    match cs, hcl with
    | [c0], _ =>
      obtain ⟨l, h1, -, h3⟩ := open_cells1 ht'
      have h2 := hat 0 (by omega)
      rw [Nat.mul_one] at h2
      exact ⟨(c0, l), by simpa [Addr.add] using h2, h1, h3⟩
   have : Inhabited (Value × List Ce) := ⟨(undef, [])⟩
   obtain ⟨C, hC'⟩ := Go.Deep.choose_lt hc
   have hlen : ((List.range len).map fun i => (C i).2).length = len := by simp
   refine ⟨(List.range len).map fun i => (C i).2, ⟨some a, cap, by rw [hlen], by omega, hm, fun k hk => ?_⟩, ⟨_, _, _, rfl⟩, fun r hr => ?_⟩
   · rw [hlen] at hk
     have ck := (hC' k hk).1
     obtain ⟨b, o, sp⟩ := a
     have ck0 := (hC' 0 (by omega)).1
     have hspot : sp = none := by simpa [Addr.add] using World.cell?_spot ck0
     subst hspot
     rw [Addr.add_lit] at ck
     refine ⟨b, o, (C k).1, rfl, World.block_lt_of_cell? _ _ ck, ck, ?_⟩
     · have : ((List.range len).map fun i => (C i).2).getD k [] = (C k).2 := by simp [List.getD, hk]
       rw [this]
       exact (hC' k hk).2.1
   · obtain ⟨i, hi, rfl⟩ := List.mem_map.1 hr
     exact (hC' i (List.mem_range.1 hi)).2.2
theorem open_data {r : Reach} {b0 : Nat} {v : Value} {d : DataW H} {p : List MemPlace} (hv : Value.okWide Tryz.prog w r b0 25 v) (h : DataW.Trod enc Tryz.prog w base spare held 25 v d p) :
 ∃ (F T : List UInt8) (MA : Option Addr) (nm cm : Nat) (TA : Option Addr) (nt ct : Nat) (lm : List Ce) (Tl : List (List Ce)), v = dataVal F T MA nm cm TA nt ct ∧ SlAt (.slice MA nm cm) lm w ∧ RowsIn (.slice TA nt ct) Tl w ∧ (∀ c ∈ lm, WfC c) ∧ ∀ l ∈ Tl, ∀ c ∈ l, WfC c := by
 obtain ⟨cs, ys, n, rfl, rfl, rfl, hc, hy, hf⟩ := open_fields Tryz.underlying25 (by kernel_rfl) (by kernel_rfl) hv h
 match cs, hc, ys, hy with
 | [c0, c1, c2, c3], _, [y0, y1, y2, y3], _ =>
   have t0 := hf 0 _ _ _ rfl rfl rfl
   have t1 := hf 1 _ _ _ rfl rfl rfl
   have t2 := hf 2 _ _ _ rfl rfl rfl
   have t3 := hf 3 _ _ _ rfl rfl rfl
   obtain ⟨n0, e0, rfl, w0⟩ := DataW.trod_string Tryz.underlying9 t0
   obtain ⟨n1, e1, rfl, w1⟩ := DataW.trod_string Tryz.underlying9 t1
   simp only [List.cons.injEq, and_true] at e0 e1
   subst e0 e1
   obtain ⟨lm, h1, ⟨MA, nm, cm, rfl⟩, h3⟩ := open_cells1 t2
   obtain ⟨Tl, k1, ⟨TA, nt, ct, rfl⟩, k3⟩ := open_rows1 t3
   have s0 : (⟨n0.data.toList.toArray⟩ : ByteArray) = n0 := by cases n0; simp
   have s1 : (⟨n1.data.toList.toArray⟩ : ByteArray) = n1 := by cases n1; simp
   refine ⟨n0.data.toList, n1.data.toList, MA, nm, cm, TA, nt, ct, lm, Tl, ?_, h1, k1, h3, k3⟩
   unfold dataVal
   rw [s0, s1]
end
end Go.Proofs.YtoglloafpnopaaaGreat
