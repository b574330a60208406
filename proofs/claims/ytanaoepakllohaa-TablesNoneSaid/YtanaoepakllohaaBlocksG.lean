/- The walks of Decode: the function that each cell is told to, and the reading of one cell after the other. -/
import Derived.Test.YtanaoepakllohaaBlocksF
import Derived.OneCell
namespace Go.Proofs.Ytanaoepakllohaa
set_option maxRecDepth 16000
open Go.RowKit Spoor

def rowOf (l : List Ce) : List Value := l.flatMap ceRow
theorem rowOf_snoc (l : List Ce) (c : Ce) : rowOf (l ++ [c]) = rowOf l ++ ceRow c := by simp [rowOf]
theorem rowOf_length : ∀ l : List Ce, (rowOf l).length = l.length * 3
  | [] => rfl
  | c :: l => by
    have := rowOf_length l
    show (ceRow c ++ rowOf l).length = _
    rw [List.length_append, this]
    simp [ceRow]
    omega
theorem rowOf_at : ∀ (l : List Ce) (i j : Nat), i < l.length → j < 3 → (rowOf l)[i * 3 + j]? = (ceRow (l.getD i Ce.zero))[j]?
  | c :: l, 0, j, _, hj => by
    show (ceRow c ++ rowOf l)[0 * 3 + j]? = _
    rw [List.getElem?_append_left (by simp [ceRow]; omega)]
    simp
  | c :: l, i + 1, j, h, hj => by
    show (ceRow c ++ rowOf l)[(i + 1) * 3 + j]? = _
    rw [List.getElem?_append_right (by simp [ceRow]; omega)]
    have := rowOf_at l i j (by simpa using h) hj
    rw [show (i + 1) * 3 + j - (ceRow c).length = i * 3 + j by simp [ceRow]; omega, this]
    simp
/-- what owns a row of cells is a slice that holds them -/
theorem slAt_own {w : World} {base : Nat} {v : Value} {l : List Ce} (h : w.ownsRow base 36 3 v l.length (rowOf l)) : SlAt v l w := by
  have hc := fun g (hg : v.ownBlock = some g) => h.cells hg
  have hlt := h.lt
  rcases h.2 with ⟨rfl, h0⟩ | ⟨g, cap, cur, rfl, hb, hg, hn, hm, _⟩
  · exact ⟨none, 0, by rw [h0], by omega, by unfold maxLen; omega, fun hl => by omega⟩
  · refine ⟨some ⟨g, 0, none⟩, cap, rfl, hn, hm, fun _ => ⟨g, 0, rfl, (hlt g rfl).2, fun i hi j v hv => ?_⟩⟩
    have hj : j < 3 := by
      have := (List.getElem?_eq_some_iff.1 hv).1
      simpa [ceRow] using this
    have := hc g rfl (i * 3 + j) v (by rw [rowOf_at l i j hi hj]; exact hv)
    rw [Addr.add_lit] at this
    rw [← Nat.add_assoc] at this
    exact this
/-- a variable that holds a slice of cells -/
def VarAt (L : Nat) (v : Value) (w : World) : Prop := w.heap[L]? = some (.cells #[v] 22 (0, 0))
theorem info_ce : (Try.prog.info? 36).map (fun i => (i.zero, i.size, i.bytes)) = some (some (.agg #[.string ⟨#[]⟩, .int .i64 0, .string ⟨#[]⟩]), 3, 40) := by kernel_rfl
structure Told (L base : Nat) (v : Value) (l : List Ce) (w w' : World) (v' : Value) : Prop where
  var : VarAt L v' w'
  own : w'.ownsRow base 36 3 v' l.length (rowOf l)
  kept : ∀ g, g < w.heap.size → g ≠ L → v.ownBlock ≠ some g → w'.heap[g]? = w.heap[g]?
  below : Below L w w'
def ToldEx (L base : Nat) (v : Value) (l : List Ce) (w w' : World) : Prop := ∃ v', Told L base v l w w' v'
theorem told_any (c : Ce) (L base : Nat) (v : Value) (l : List Ce) (w : World) (hv : VarAt L v w) (own : w.ownsRow base 36 3 v l.length (rowOf l)) (hL : L < base) (hbs : base ≤ w.heap.size) (hbd : (l.length + 1) * 40 ≤ 140737488355328) :
    Calls Try.prog 73 #[ceVal c, .pointer (some ⟨L, 0, none⟩)] w fun e w' => e = .returned (.bool true) ∧ ToldEx L base v (l ++ [c]) w w' := by
  have hLs : L < w.heap.size := lt_of_block hv
  have q1 := CeAt.boxed c w
  have b1 := (Below.refl w.heap.size w).alloc (Nat.le_refl _) (boxC c)
  have own1 := own.alloc (boxC c)
  have hv1 : VarAt L v (w.alloc (boxC c)) := (Below.heap_alloc w _ L hLs).trans hv
  obtain ⟨i0, hi, hz0, hz1, hz2⟩ := info_parts info_ce
  have hsz1 : (w.alloc (boxC c)).heap.size = w.heap.size + 1 := by simp
  have HW := Lib.hid hsz1
  have hmax : l.length + 1 ≤ maxLen := by unfold maxLen; omega
  unfold ceVal
  unfold boxC at *
  go_enter Try.func73, Try.ntmps73
  clear hsz1
  go_upto_region 1 with fail
  generalize hw1 : w.alloc _ = w1 at *
  have HW1 := Lib.hid hw1
  clear hw1
  obtain ⟨y0, y1, y2⟩ := q1.cell
  have z0 := cell_of_one hv1
  have z1 := free_of_one hv1
  go_wp2_with (at_builtin; refine wpList_append_own _ rfl _ _ 22 rfl base 36 i0 (.agg #[.string ⟨#[]⟩, .int .i64 0, .string ⟨#[]⟩]) 3 40 Try.underlying22 hi hz0 hz1 hz2 rfl (by decide) v l.length (rowOf l) rfl (own1.alloc _) ⟨w1.heap.size, 0, none⟩ 1 1 (ceRow c) rfl rfl ?c1 ?c2 hmax hbd ?c5 ?_)
  case c1 =>
    have q3 := CeAt.boxed c w1
    unfold boxC at q3
    intro j u hj
    rw [Addr.add_lit, Nat.zero_add]
    obtain ⟨r0, r1, r2⟩ := q3.cell
    match j, hj with
    | 0, hj => simp only [ceRow, List.getElem?_cons_zero, Option.some.injEq] at hj; subst hj; exact r0
    | 1, hj => simp only [ceRow, List.getElem?_cons_succ, List.getElem?_cons_zero, Option.some.injEq] at hj; subst hj; exact r1
    | 2, hj => simp only [ceRow, List.getElem?_cons_succ, List.getElem?_cons_zero, Option.some.injEq] at hj; subst hj; exact r2
    | j + 3, hj => simp [ceRow] at hj
  case c2 =>
    intro u hu
    simp only [ceRow, List.mem_cons, List.not_mem_nil, or_false] at hu
    rcases hu with rfl | rfl | rfl <;> rfl
  case c5 => have := HW.out; simp; omega
  intro v' w2 own2 gr _
  have hne : v.ownBlock ≠ some L := fun e => by have := (own.lt L e).1; omega
  have hv2 : VarAt L v w2 := by
    unfold VarAt
    rw [gr.block L (by have := HW.out; simp; omega) (fun e => hne e.symm)]
    exact (Below.heap_alloc w1 _ L (by have := HW.out; omega)).trans hv1
  have kept : ∀ g, g < w.heap.size → v.ownBlock ≠ some g → w2.heap[g]? = w.heap[g]? := by
    intro g hg hn
    have h1 := HW.out
    rw [gr.block g (by simp; omega) (fun e => hn e.symm), Below.heap_alloc w1 _ g (by omega), ← HW1.out]
    exact Below.heap_alloc w _ g hg
  have hb2 : Below L w w2 := by
    have h1 := HW.out
    refine Below.grown (w := w1.alloc _) (((b1.mono (by omega)).alloc (by omega) _)) gr (by simp; omega) (fun k hk => ?_)
    have := (own.lt k hk).1
    omega
  rcases own2.2 with ⟨_, h0⟩ | ⟨g, cap, cur, hv', hbg, hrest⟩
  · omega
  · subst hv'
    clear z0 z1 y0 y1 y2
    have z0 := cell_of_one hv2
    have z1 := free_of_one hv2
    have hgl : (Value.slice (some ⟨g, 0, none⟩) (l.length + 1) cap).ownBlock ≠ some L := by
      simp only [Value.ownBlock, ne_eq, Option.some.injEq]
      omega
    clear hrest
    go_wp2_with fail
    go_ret
    refine ⟨rfl, _, one_setCell hv2, ?_, ?_, below_set hb2 (Nat.le_refl _) 0 _⟩
    · rw [rowOf_snoc, List.length_append]
      exact ownsRow_setCell_other own2 (a := ⟨L, 0, none⟩) hgl _
    · intro k hk hkL hkn
      exact (Below.heap_setCell _ _ _ _ (fun e => hkL (by simpa using e))).trans (kept k hk hkn)
end Go.Proofs.Ytanaoepakllohaa
