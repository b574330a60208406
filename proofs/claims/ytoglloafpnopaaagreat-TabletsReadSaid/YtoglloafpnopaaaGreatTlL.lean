/- The laws' data as an argument, opened. What the laws of tablets share. -/
import Derived.Test.YtoglloafpnopaaaGreatTC
import Derived.Test.YtoglloafpnopaaaGreatTE
import Derived.Test.YtoglloafpnopaaaGreatMgA
import Derived.Test.YtoglloafpnopaaaGreatTlJ
set_option linter.unusedSimpArgs false
set_option linter.unusedVariables false
namespace Go.Proofs.YtoglloafpnopaaaGreat
set_option maxRecDepth 16000
open Go.RowKit Go.ChangeShapes Go.WideShapes Spoor Go.Opens Go.Deep
section
variable {H : Type} {enc : TypeId × Value → H} {w : World} {base : Nat} {spare : Nat → Bool} {held : Bool}
theorem open_cells1 {n : Nat} {v : Value} {y : DataW H × List MemPlace} (hf : DataW.trod enc Tryz.prog w base spare held n 22 [v] = some y) :
 ∃ l : List Ce, SlAt v l w ∧ (∃ A n c, v = .slice A n c) ∧ ∀ c ∈ l, WfC c := by
 have hsh : ∃ A n c, v = .slice A n c := by
  rcases open_slice Tryz.underlying22 hf with ⟨h1, _⟩ | ⟨a, len, cap, m, n, D, Pl, h1, _⟩
  · simp only [List.cons.injEq, and_true] at h1
    exact ⟨_, _, _, h1⟩
  · simp only [List.cons.injEq, and_true] at h1
    exact ⟨_, _, _, h1⟩
 have hcell : v.cells.toList = [v] := by
  obtain ⟨A, n, c, rfl⟩ := hsh
  rfl
 have h : DataW.Trod enc Tryz.prog w base spare held 22 v y.1 y.2 := ⟨n, by rw [hcell]; exact hf⟩
 rcases open_structs Tryz.underlying22 Tryz.underlying38 (by kernel_rfl) (by kernel_rfl) h hcell with rfl | ⟨a, len, cap, rfl, hl, hm, hi⟩
 · exact ⟨[], ⟨none, 0, rfl, by simp, by unfold maxLen; omega, fun h => by simp at h⟩, hsh, by simp⟩
 · have hc : ∀ i, i < len → ∃ c : Ce, (∀ j u, (ceRow c)[j]? = some u → w.cell? (a.add (i * 3 + j)) = some u) ∧ WfC c := by
    intro i hil
    obtain ⟨cs, hcl, hat, ys, m, hyl, hf⟩ := hi i hil
    match cs, hcl, ys, hyl with
    | [c0, c1, c2], _, [y0, y1, y2], _ =>
      have t0 := hf 0 _ _ _ rfl rfl rfl
      have t1 := hf 1 _ _ _ rfl rfl rfl
      have t2 := hf 2 _ _ _ rfl rfl rfl
      obtain ⟨n0, e0, rfl, w0⟩ := DataW.trod_string Tryz.underlying9 t0
      obtain ⟨n1, e1, rfl, w1⟩ := DataW.trod_int Tryz.underlying3 t1
      obtain ⟨n2, e2, rfl, w2⟩ := DataW.trod_string Tryz.underlying9 t2
      simp only [List.cons.injEq, and_true] at e0 e1 e2
      subst e0 e1 e2
      have l0 : n0.data.toList.length = n0.size := by { rw [Array.length_toList]; rfl }
      have l2 : n2.data.toList.length = n2.size := by { rw [Array.length_toList]; rfl }
      have s0 : (⟨n0.data.toList.toArray⟩ : ByteArray) = n0 := by cases n0; simp
      have s2 : (⟨n2.data.toList.toArray⟩ : ByteArray) = n2 := by cases n2; simp
      refine ⟨⟨n0.data.toList, n1, n2.data.toList⟩, fun j u hj => hat j u ?_, by dsimp only; omega, by dsimp only; omega, ?_⟩
      · unfold ceRow at hj
        simp only [s0, s2] at hj
        exact hj
      · have := w1
        simp [Lit.wf] at this
        simp only
        omega
   have : Inhabited Ce := ⟨Ce.zero⟩
   obtain ⟨C, hC⟩ := Go.Deep.choose_lt hc
   have hlen : ((List.range len).map C).length = len := by simp
   have hg : ∀ i, i < len → ((List.range len).map C).getD i Ce.zero = C i := fun i hi => by simp [List.getD, hi]
   refine ⟨(List.range len).map C, ⟨some a, cap, by rw [hlen], by omega, hm, fun h => ?_⟩, hsh, ?_⟩
   · have h0 : 0 < len := by omega
     have c00 := (hC 0 h0).1 0 _ rfl
     obtain ⟨b, o, sp⟩ := a
     have hspot : sp = none := by simpa [Addr.add] using World.cell?_spot c00
     subst hspot
     refine ⟨b, o, rfl, ?_, fun i hi j u hj => ?_⟩
     · have := World.block_lt_of_cell? _ _ c00
       simpa [Addr.add] using this
     · rw [hlen] at hi
       rw [hg i hi] at hj
       have := (hC i hi).1 j u hj
       rw [Addr.add_lit] at this
       rwa [← Nat.add_assoc] at this
   · intro c hc
     obtain ⟨i, hi, rfl⟩ := List.mem_map.1 hc
     exact (hC i (List.mem_range.1 hi)).2
theorem open_rows1 {n : Nat} {v : Value} {y : DataW H × List MemPlace} (hf : DataW.trod enc Tryz.prog w base spare held n 23 [v] = some y) :
 ∃ Rs : List (List Ce), RowsIn v Rs w ∧ (∃ A n c, v = .slice A n c) ∧ ∀ r ∈ Rs, ∀ c ∈ r, WfC c := by
 rcases open_slice Tryz.underlying23 hf with ⟨h1, _⟩ | ⟨a, len, cap, m, n, D, Pl, h1, _, hl, hm, hmm, _, hi⟩
 · simp only [List.cons.injEq, and_true] at h1
   subst h1
   exact ⟨[], ⟨none, 0, rfl, by simp, by unfold maxLen; omega, fun k hk => by simp at hk⟩, ⟨_, _, _, rfl⟩, by simp⟩
 · simp only [List.cons.injEq, and_true] at h1
   subst h1
   have hC : Tryz.prog.cellsOf 22 = 1 := by kernel_rfl
   have hc : ∀ i, i < len → ∃ x : Value × List Ce, w.cell? (a.add i) = some x.1 ∧ SlAt x.1 x.2 w ∧ ∀ c ∈ x.2, WfC c := by
    intro i hil
    obtain ⟨cs, hcs, ht'⟩ := hi i (by rw [hmm]; split <;> omega)
    rw [hC] at hcs
    obtain ⟨_, hcl, hat⟩ := World.cells?_some hcs
    match cs, hcl with
    | [c0], _ =>
      obtain ⟨l, h1, -, h3⟩ := open_cells1 ht'
      have h2 := hat 0 (by omega)
      rw [Nat.mul_one] at h2
      exact ⟨(c0, l), by simpa [Addr.add] using h2, h1, h3⟩
   have : Inhabited (Value × List Ce) := ⟨(undef, [])⟩
   obtain ⟨C, hC'⟩ := Go.Deep.choose_lt hc
   have hlen : ((List.range len).map fun i => (C i).2).length = len := by simp
   refine ⟨(List.range len).map fun i => (C i).2, ⟨some a, cap, by rw [hlen], by omega, hm, fun k hk => ?_⟩, ⟨_, _, _, rfl⟩, fun r hr => ?_⟩
   · rw [hlen] at hk
     have ck := (hC' k hk).1
     obtain ⟨b, o, sp⟩ := a
     have ck0 := (hC' 0 (by omega)).1
     have hspot : sp = none := by simpa [Addr.add] using World.cell?_spot ck0
     subst hspot
     rw [Addr.add_lit] at ck
     refine ⟨b, o, (C k).1, rfl, World.block_lt_of_cell? _ _ ck, ck, ?_⟩
     · have : ((List.range len).map fun i => (C i).2).getD k [] = (C k).2 := by simp [List.getD, hk]
       rw [this]
       exact (hC' k hk).2.1
   · obtain ⟨i, hi, rfl⟩ := List.mem_map.1 hr
     exact (hC' i (List.mem_range.1 hi)).2.2
theorem open_data {r : Reach} {b0 : Nat} {v : Value} {d : DataW H} {p : List MemPlace} (hv : Value.okWide Tryz.prog w r b0 25 v) (h : DataW.Trod enc Tryz.prog w base spare held 25 v d p) :
 ∃ (F T : List UInt8) (MA : Option Addr) (nm cm : Nat) (TA : Option Addr) (nt ct : Nat) (lm : List Ce) (Tl : List (List Ce)), v = dataVal F T MA nm cm TA nt ct ∧ SlAt (.slice MA nm cm) lm w ∧ RowsIn (.slice TA nt ct) Tl w ∧ (∀ c ∈ lm, WfC c) ∧ ∀ l ∈ Tl, ∀ c ∈ l, WfC c := by
 obtain ⟨cs, ys, n, rfl, rfl, rfl, hc, hy, hf⟩ := open_fields Tryz.underlying25 (by kernel_rfl) (by kernel_rfl) hv h
 match cs, hc, ys, hy with
 | [c0, c1, c2, c3], _, [y0, y1, y2, y3], _ =>
   have t0 := hf 0 _ _ _ rfl rfl rfl
   have t1 := hf 1 _ _ _ rfl rfl rfl
   have t2 := hf 2 _ _ _ rfl rfl rfl
   have t3 := hf 3 _ _ _ rfl rfl rfl
   obtain ⟨n0, e0, rfl, w0⟩ := DataW.trod_string Tryz.underlying9 t0
   obtain ⟨n1, e1, rfl, w1⟩ := DataW.trod_string Tryz.underlying9 t1
   simp only [List.cons.injEq, and_true] at e0 e1
   subst e0 e1
   obtain ⟨lm, h1, ⟨MA, nm, cm, rfl⟩, h3⟩ := open_cells1 t2
   obtain ⟨Tl, k1, ⟨TA, nt, ct, rfl⟩, k3⟩ := open_rows1 t3
   have s0 : (⟨n0.data.toList.toArray⟩ : ByteArray) = n0 := by cases n0; simp
   have s1 : (⟨n1.data.toList.toArray⟩ : ByteArray) = n1 := by cases n1; simp
   refine ⟨n0.data.toList, n1.data.toList, MA, nm, cm, TA, nt, ct, lm, Tl, ?_, h1, k1, h3, k3⟩
   unfold dataVal
   rw [s0, s1]
end
theorem tab_cells {W : World} {b : Nat} {F T : List UInt8} {M A : Option Addr} {n c : Nat} (h : W.heap[b]? = some (.cells #[.string ⟨F.toArray⟩, .string ⟨T.toArray⟩, .pointer M, .slice A n c] 31 (0, 0))) :
 W.cell? ⟨b, 0, none⟩ = some (.string ⟨F.toArray⟩) ∧ W.cell? ⟨b, 1, none⟩ = some (.string ⟨T.toArray⟩) ∧ W.cell? ⟨b, 2, none⟩ = some (.pointer M) ∧ W.cell? ⟨b, 3, none⟩ = some (.slice A n c) := by
 refine ⟨?_, ?_, ?_, ?_⟩ <;> (rw [cell_of_row W b _ _ _ _ h]; rfl)
theorem data_cells {W : World} {b : Nat} {F T : List UInt8} {M A : Option Addr} {m k n c : Nat} (h : W.heap[b]? = some (.cells #[.string ⟨F.toArray⟩, .string ⟨T.toArray⟩, .slice M m k, .slice A n c] 25 (0, 0))) :
 W.cell? ⟨b, 0, none⟩ = some (.string ⟨F.toArray⟩) ∧ W.cell? ⟨b, 1, none⟩ = some (.string ⟨T.toArray⟩) ∧ W.cell? ⟨b, 2, none⟩ = some (.slice M m k) ∧ W.cell? ⟨b, 3, none⟩ = some (.slice A n c) := by
 refine ⟨?_, ?_, ?_, ?_⟩ <;> (rw [cell_of_row W b _ _ _ _ h]; rfl)
theorem ref_cells {W : World} {b : Nat} {F T : List UInt8} {A : Option Addr} {n c : Nat} (h : W.heap[b]? = some (.cells #[.string ⟨F.toArray⟩, .string ⟨T.toArray⟩, .slice A n c] 33 (0, 0))) :
 W.cell? ⟨b, 0, none⟩ = some (.string ⟨F.toArray⟩) ∧ W.cell? ⟨b, 1, none⟩ = some (.string ⟨T.toArray⟩) ∧ W.cell? ⟨b, 2, none⟩ = some (.slice A n c) := by
 refine ⟨?_, ?_, ?_⟩ <;> (rw [cell_of_row W b _ _ _ _ h]; rfl)
theorem new_data (F T : List UInt8) (M A : Option Addr) (m k n c : Nat) (w : World) : ∃ xb W0, w.heap.size = xb ∧ w.alloc (.cells #[.string ⟨F.toArray⟩, .string ⟨T.toArray⟩, .slice M m k, .slice A n c] 25) = W0 ∧
 W0.heap[xb]? = some (.cells #[.string ⟨F.toArray⟩, .string ⟨T.toArray⟩, .slice M m k, .slice A n c] 25 (0, 0)) ∧ Below w.heap.size w W0 ∧ W0.heap.size = xb + 1 :=
 ⟨_, _, rfl, rfl, heap_alloc_new w _, (Below.refl w.heap.size w).alloc (Nat.le_refl _) _, World.size_alloc _ _⟩
theorem tab_cells0 {W : World} {b : Nat} (h : W.heap[b]? = some (.cells #[.string ⟨#[]⟩, .string ⟨#[]⟩, .pointer none, .slice none 0 0] 31 (0, 0))) :
 W.cell? ⟨b, 0, none⟩ = some (.string ⟨#[]⟩) ∧ W.cell? ⟨b, 1, none⟩ = some (.string ⟨#[]⟩) ∧ W.cell? ⟨b, 2, none⟩ = some (.pointer none) ∧ W.cell? ⟨b, 3, none⟩ = some (.slice none 0 0) := by
 refine ⟨?_, ?_, ?_, ?_⟩ <;> (rw [cell_of_row W b _ _ _ _ h]; rfl)
theorem ref_cells0 {W : World} {b : Nat} (h : W.heap[b]? = some (.cells #[.string ⟨#[]⟩, .string ⟨#[]⟩, .slice none 0 0] 33 (0, 0))) :
 W.cell? ⟨b, 0, none⟩ = some (.string ⟨#[]⟩) ∧ W.cell? ⟨b, 1, none⟩ = some (.string ⟨#[]⟩) ∧ W.cell? ⟨b, 2, none⟩ = some (.slice none 0 0) := by
 refine ⟨?_, ?_, ?_⟩ <;> (rw [cell_of_row W b _ _ _ _ h]; rfl)
theorem boxes2 (F T : List UInt8) (M A A2 : Option Addr) (n c n2 c2 : Nat) (w4 : World) : ∃ b1 W5 W6 W7 W8, w4.heap.size = b1 ∧
 w4.alloc (.cells #[.string ⟨#[]⟩, .string ⟨#[]⟩, .pointer none, .slice none 0 0] 31) = W5 ∧ W5.heap.size = b1 + 1 ∧
 W5.alloc (.cells #[.string ⟨#[]⟩, .string ⟨#[]⟩, .slice none 0 0] 33) = W6 ∧
 (W6.cell? ⟨b1, 0, none⟩ = some (.string ⟨#[]⟩) ∧ W6.cell? ⟨b1, 1, none⟩ = some (.string ⟨#[]⟩) ∧ W6.cell? ⟨b1, 2, none⟩ = some (.pointer none) ∧ W6.cell? ⟨b1, 3, none⟩ = some (.slice none 0 0)) ∧ (∀ j, W6.frozen? ⟨b1, j, none⟩ = false) ∧
 (((W6.setCell ⟨b1, 0, none⟩ (.string ⟨F.toArray⟩)).setCell ⟨b1, 1, none⟩ (.string ⟨T.toArray⟩)).setCell ⟨b1, 2, none⟩ (.pointer M)).setCell ⟨b1, 3, none⟩ (.slice A n c) = W7 ∧
 (W7.cell? ⟨b1 + 1, 0, none⟩ = some (.string ⟨#[]⟩) ∧ W7.cell? ⟨b1 + 1, 1, none⟩ = some (.string ⟨#[]⟩) ∧ W7.cell? ⟨b1 + 1, 2, none⟩ = some (.slice none 0 0)) ∧ (∀ j, W7.frozen? ⟨b1 + 1, j, none⟩ = false) ∧
 ((W7.setCell ⟨b1 + 1, 0, none⟩ (.string ⟨F.toArray⟩)).setCell ⟨b1 + 1, 1, none⟩ (.string ⟨T.toArray⟩)).setCell ⟨b1 + 1, 2, none⟩ (.slice A2 n2 c2) = W8 ∧
 W8.heap[b1]? = some (.cells #[.string ⟨F.toArray⟩, .string ⟨T.toArray⟩, .pointer M, .slice A n c] 31 (0, 0)) ∧
 W8.heap[b1 + 1]? = some (.cells #[.string ⟨F.toArray⟩, .string ⟨T.toArray⟩, .slice A2 n2 c2] 33 (0, 0)) ∧
 Below w4.heap.size w4 W8 ∧ W8.heap.size = b1 + 1 + 1 := by
 obtain ⟨b1, hb1⟩ : ∃ b1, w4.heap.size = b1 := ⟨_, rfl⟩
 obtain ⟨W5, hW5, h5, nb5, sz5, -⟩ := new_tab w4 b1 hb1
 obtain ⟨W6, hW6, h6, nb6, sz6, -⟩ := new_ref W5 (b1 + 1) sz5
 have h56 := (nb6.block b1 (by omega)).trans h5
 have q6 := set4 (a' := .string ⟨F.toArray⟩) (b' := .string ⟨T.toArray⟩) (c' := .pointer M) (d' := .slice A n c) h56
 have k6 : ∀ k, k ≠ b1 → ((((W6.setCell ⟨b1, 0, none⟩ (.string ⟨F.toArray⟩)).setCell ⟨b1, 1, none⟩ (.string ⟨T.toArray⟩)).setCell ⟨b1, 2, none⟩ (.pointer M)).setCell ⟨b1, 3, none⟩ (.slice A n c)).heap[k]? = W6.heap[k]? := fun k hk =>
  (Below.heap_setCell _ ⟨b1, 3, none⟩ _ k hk).trans ((Below.heap_setCell _ ⟨b1, 2, none⟩ _ k hk).trans ((Below.heap_setCell _ ⟨b1, 1, none⟩ _ k hk).trans (Below.heap_setCell _ ⟨b1, 0, none⟩ _ k hk)))
 have B6 : Below w4.heap.size w4 ((((W6.setCell ⟨b1, 0, none⟩ (.string ⟨F.toArray⟩)).setCell ⟨b1, 1, none⟩ (.string ⟨T.toArray⟩)).setCell ⟨b1, 2, none⟩ (.pointer M)).setCell ⟨b1, 3, none⟩ (.slice A n c)) := below_set (below_set (below_set (below_set (nb5.trans (nb6.mono (by omega))) (by omega) 0 _) (by omega) 1 _) (by omega) 2 _) (by omega) 3 _
 have s6 : ((((W6.setCell ⟨b1, 0, none⟩ (.string ⟨F.toArray⟩)).setCell ⟨b1, 1, none⟩ (.string ⟨T.toArray⟩)).setCell ⟨b1, 2, none⟩ (.pointer M)).setCell ⟨b1, 3, none⟩ (.slice A n c)).heap.size = b1 + 1 + 1 := by simp only [World.size_setCell]; exact sz6
 obtain ⟨W7, hW7⟩ : ∃ W7, ((((W6.setCell ⟨b1, 0, none⟩ (.string ⟨F.toArray⟩)).setCell ⟨b1, 1, none⟩ (.string ⟨T.toArray⟩)).setCell ⟨b1, 2, none⟩ (.pointer M)).setCell ⟨b1, 3, none⟩ (.slice A n c)) = W7 := ⟨_, rfl⟩
 rw [hW7] at q6 k6 B6 s6
 have l7 := (k6 (b1 + 1) (by omega)).trans h6
 have q7 := set3 (a' := .string ⟨F.toArray⟩) (b' := .string ⟨T.toArray⟩) (c' := .slice A2 n2 c2) l7
 have s7 : (((W7.setCell ⟨b1 + 1, 0, none⟩ (.string ⟨F.toArray⟩)).setCell ⟨b1 + 1, 1, none⟩ (.string ⟨T.toArray⟩)).setCell ⟨b1 + 1, 2, none⟩ (.slice A2 n2 c2)).heap.size = b1 + 1 + 1 := by simp only [World.size_setCell]; exact s6
 refine ⟨b1, W5, W6, W7, _, hb1, hW5, sz5, hW6, tab_cells0 h56, fun j => by simp [World.frozen?, h56], hW7, ref_cells0 l7, fun j => by simp [World.frozen?, l7], rfl, ?_, q7, below_set (below_set (below_set B6 (by omega) 0 _) (by omega) 1 _) (by omega) 2 _, s7⟩
 exact ((Below.heap_setCell _ ⟨b1 + 1, 2, none⟩ _ b1 (by show b1 ≠ b1 + 1; omega)).trans ((Below.heap_setCell _ ⟨b1 + 1, 1, none⟩ _ b1 (by show b1 ≠ b1 + 1; omega)).trans (Below.heap_setCell _ ⟨b1 + 1, 0, none⟩ _ b1 (by show b1 ≠ b1 + 1; omega)))).trans q6
theorem cell_put (v : World) (x : Ce) : ∃ g u V, v.heap.size = g ∧ v.alloc (.cells #[.string ⟨#[]⟩, .int .i64 0, .string ⟨#[]⟩] 38) = u ∧
 (u.cell? ⟨g, 0, none⟩ = some (.string ⟨#[]⟩) ∧ u.cell? ⟨g, 1, none⟩ = some (.int .i64 0) ∧ u.cell? ⟨g, 2, none⟩ = some (.string ⟨#[]⟩)) ∧ (u.frozen? ⟨g, 0, none⟩ = false ∧ u.frozen? ⟨g, 1, none⟩ = false ∧ u.frozen? ⟨g, 2, none⟩ = false) ∧
 ((u.setCell ⟨g, 0, none⟩ (.string ⟨x.k.toArray⟩)).setCell ⟨g, 1, none⟩ (.int .i64 x.q)).setCell ⟨g, 2, none⟩ (.string ⟨x.v.toArray⟩) = V ∧
 V.heap[g]? = some (.cells #[.string ⟨x.k.toArray⟩, .int .i64 x.q, .string ⟨x.v.toArray⟩] 38 (0, 0)) ∧ Below v.heap.size v V ∧ V.heap.size = g + 1 := by
 obtain ⟨g, hg⟩ : ∃ g, v.heap.size = g := ⟨_, rfl⟩
 have hs : (v.alloc (.cells #[.string ⟨#[]⟩, .int .i64 0, .string ⟨#[]⟩] 38)).heap.size = v.heap.size + 1 := World.size_alloc _ _
 obtain ⟨u, hu, hz, nz, x0, x1, x2, f0, f1, f2⟩ := new_cell v g hg
 rw [hu] at hs
 refine ⟨g, u, _, hg, hu, ⟨x0, x1, x2⟩, ⟨f0, f1, f2⟩, rfl, set3 hz, below_set (below_set (below_set nz (by omega) 0 _) (by omega) 1 _) (by omega) 2 _, ?_⟩
 simp only [World.size_setCell]
 omega
theorem TabsAt.one {W : World} {g : Nat} {P : Option Addr} {r : List Ce} (hc : W.cell? ⟨g, 0, none⟩ = some (.pointer P)) (hg : g < W.heap.size) (hp : TabPtr P r W) : TabsAt (some ⟨g, 0, none⟩) 1 1 [r] W :=
 ⟨rfl, Nat.le_refl _, by unfold maxLen; omega, fun k hk => by
   obtain rfl : k = 0 := by omega
   exact ⟨g, 0, P, rfl, hg, hc, hp⟩⟩
theorem data_rows {lm : List Ce} {Tl : List (List Ce)} (h : DataOk lm Tl) : (∀ r ∈ putsC [] lm :: Tl.map (putsC []), RowOk r ∧ r.length ≤ 40) ∧ (Tl.map (putsC [])).length ≤ 5 := by
 have key : ∀ l : List Ce, l.length ≤ 40 → (∀ c ∈ l, FitsC c) → RowOk (putsC [] l) ∧ (putsC [] l).length ≤ 40 := fun l h1 h2 => by
  have hl : (putsC [] l).length ≤ 40 := by have := puts_length l []; simp at this; omega
  exact ⟨⟨by omega, fits_puts (by simp) h2, sorted_rise.2 ⟨puts_rise (by simp [Rise]), puts_may (by simp)⟩⟩, hl⟩
 refine ⟨fun r hr => ?_, by rw [List.length_map]; exact h.2.1⟩
 rcases List.mem_cons.1 hr with rfl | hr
 · exact key lm h.1.1 h.1.2
 · obtain ⟨l, hl, rfl⟩ := List.mem_map.1 hr
   exact key l (h.2.2 l hl).1 (h.2.2 l hl).2
theorem sum_le {R : List (List Ce)} {m : Nat} (h : ∀ r ∈ R, r.length ≤ m) : (R.map (·.length)).sum ≤ R.length * m := by
 induction R with
 | nil => simp
 | cons a R ih =>
   have h1 := h a List.mem_cons_self
   have h2 := ih fun r hr => h r (List.mem_cons_of_mem _ hr)
   rw [List.map_cons, List.sum_cons, List.length_cons, Nat.succ_mul]
   omega
theorem eql_bb (b : Bool) (W : World) : (binOp .eql 4 (.bool b) (.bool b)).run Tryz.prog W = .ok (.bool true) W := by cases b <;> rfl
end Go.Proofs.YtoglloafpnopaaaGreat
