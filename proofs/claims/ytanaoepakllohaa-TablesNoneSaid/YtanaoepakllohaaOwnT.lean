/- Rows of bytes that a call owns and of which no cell is frozen, whatever their frozen range: what '[]byte(s)' lays, and appending a string's bytes to it. Over any program; no condition but the lengths' bounds. -/
import Derived.Lib.FrozenHead
import Derived.Laws.IdiomStrings
import Derived.Below
namespace Go
open Go.RowKit Go.Lib
def Thawed (cur : Array Value) (fz : Nat × Nat) : Prop := ∀ j, j < cur.size → ¬ (fz.1 ≤ j ∧ j < fz.2)
/-- the value owns these bytes -/
def World.ownsT (w : World) (base : Nat) (e : TypeId) (v : Value) (bs : List UInt8) : Prop :=
  ∃ g cap cur fz, v = .slice (some ⟨g, 0, none⟩) bs.length cap ∧ base ≤ g ∧ w.heap[g]? = some (.cells cur e fz) ∧ Thawed cur fz ∧ bs.length ≤ cap ∧ cap ≤ maxLen ∧ cur.size = cap ∧ cur.toList.take bs.length = bs.map fun b => Value.int .u8 b.toNat
theorem World.ownsT.later {w w' : World} {base : Nat} {e : TypeId} {v : Value} {bs : List UInt8} (h : w.ownsT base e v bs) (hb : Below w.heap.size w w') : w'.ownsT base e v bs := by
  obtain ⟨g, cap, cur, fz, h1, h2, h3, h4⟩ := h
  exact ⟨g, cap, cur, fz, h1, h2, (hb.block g (Array.getElem?_eq_some_iff.1 h3).1).trans h3, h4⟩
theorem World.ownsT.mono {w : World} {base base' : Nat} {e : TypeId} {v : Value} {bs : List UInt8} (h : w.ownsT base e v bs) (hb : base' ≤ base) : w.ownsT base' e v bs := by
  obtain ⟨g, cap, cur, fz, h1, h2, h3⟩ := h
  exact ⟨g, cap, cur, fz, h1, Nat.le_trans hb h2, h3⟩
theorem World.ownsT.below {a w w' : World} {B : Nat} {e : TypeId} {v : Value} {bs : List UInt8} (h : w.ownsT B e v bs) (hb : Below B a w) (hg : w.grownBy w' v.ownBlock) (hB : B ≤ w.heap.size) : Below B a w' := by
  obtain ⟨g, cap, cur, fz, rfl, h2, _⟩ := h
  refine hb.grown hg hB (fun k hk => ?_)
  simp only [Value.ownBlock, Option.some.injEq] at hk
  omega
theorem World.ownsT.form {w : World} {base : Nat} {e : TypeId} {v : Value} {bs : List UInt8} (h : w.ownsT base e v bs) : ∃ a cap, v = .slice (some a) bs.length cap ∧ base ≤ a.block ∧ v.ownBlock = some a.block := by
  obtain ⟨g, cap, cur, fz, rfl, h2, _⟩ := h
  exact ⟨_, _, rfl, h2, rfl⟩
theorem storeCells_T (P : Program) (g o : Nat) (t : TypeId) (fz : Nat × Nat) : ∀ (vs : List Value) (i : Nat) (cur : Array Value) (w : World), w.heap[g]? = some (.cells cur t fz) → Thawed cur fz → o + i + vs.length ≤ cur.size → (∀ v ∈ vs, v.oneCell' = true) →
    (storeCells ⟨g, o, none⟩ vs i).run P w = .ok () (w.setRow g (cur.toList.take (o + i) ++ vs ++ cur.toList.drop (o + i + vs.length)).toArray)
  | [], i, cur, w, hg, _, _, _ => by
    rw [List.append_nil, List.length_nil, Nat.add_zero, List.take_append_drop, Array.toArray_toList, setRow_self w g cur t fz hg]
    rfl
  | v :: rest, i, cur, w, hg, hfz, hl, h1 => by
    have hl' : o + i + (rest.length + 1) ≤ cur.size := hl
    have hi : o + i < cur.size := by omega
    have hcell : w.cell? ⟨g, o + i, none⟩ = some cur[o + i] := by simp [World.cell?, hg, hi]
    have hfro : w.frozen? ⟨g, o + i, none⟩ = false := by
      have := hfz _ hi
      obtain ⟨lo, hi'⟩ := fz
      simp only [World.frozen?, hg, Bool.and_eq_false_iff, decide_eq_false_iff_not]
      simp only at this
      omega
    have hst : (store ((⟨g, o, none⟩ : Addr).add i) v).run P w = .ok () (w.setRow g (cur.setIfInBounds (o + i) v)) := by
      rw [Addr.add_lit, run_store P w _ v _ (h1 v (List.mem_cons_self ..)), hcell]
      simp [hfro, setCell_eq_setRow w g (o + i) cur t fz v hg]
    have hfz2 : Thawed (cur.setIfInBounds (o + i) v) fz := by unfold Thawed; rw [Array.size_setIfInBounds]; exact hfz
    have ih := storeCells_T P g o t fz rest (i + 1) (cur.setIfInBounds (o + i) v) (w.setRow g (cur.setIfInBounds (o + i) v)) (setRow_heap w g cur _ t _ hg) hfz2 (by rw [Array.size_setIfInBounds]; omega) (fun x hx => h1 x (List.mem_cons_of_mem _ hx))
    simp only [storeCells, Sem.run_bind, hst, Result.andThen_ok, ih, setRow_setRow]
    congr 3
    have e := list_seg_step cur.toList (o + i) v rest (by rw [Array.length_toList]; omega)
    simpa [Array.toList_setIfInBounds, Nat.add_assoc] using e
theorem strCells_of (l : List UInt8) : strCells ⟨l.toArray⟩ = l.map fun b => Value.int .u8 b.toNat := by simp [strCells]
theorem size_of (l : List UInt8) : (⟨l.toArray⟩ : ByteArray).size = l.length := by show l.toArray.size = _; simp
section
variable {P : Program} (w : World)
theorem run_append_T (base : Nat) (t u ty e : TypeId) (i : TypeInfo) (ht : P.underlying t = some (.slice e)) (hu : P.underlying u = some .string) (hi : P.info? e = some i) (hz : i.zero = some (.int .u8 0)) (hsize : i.size = 1) (hby : i.bytes = 1)
    (v : Value) (bs l : List UInt8) (hown : w.ownsT base e v bs) (hb : bs.length + l.length ≤ 140737488355328) (hbase : base ≤ w.heap.size) :
    ∃ v' w', (Builtin.append_ #[t, u] ty #[v, .string ⟨l.toArray⟩]).run P w = .ok v' w' ∧ w'.ownsT base e v' (bs ++ l) ∧ w.grownBy w' v.ownBlock := by
  obtain ⟨g, cap, cur, fz, rfl, hbg, hg, hfz, hnc, hcm, hcs, htake⟩ := hown
  have hmax : bs.length + l.length ≤ maxLen := by unfold maxLen; omega
  have hll : (bs ++ l).length = bs.length + l.length := List.length_append
  by_cases hroom : bs.length + l.length ≤ cap
  · have hst := storeCells_T P g bs.length e fz (strCells ⟨l.toArray⟩) 0 cur w hg hfz (by rw [strCells_length, size_of]; omega) (strCells_oneCell _)
    have hf := run_firstCells_string (P := P) w 1 ⟨l.toArray⟩
    simp only [Nat.add_zero, strCells_length, size_of] at hst hf
    have hr : (Builtin.append_ #[t, u] ty #[.slice (some ⟨g, 0, none⟩) bs.length cap, .string ⟨l.toArray⟩]).run P w =
        .ok (.slice (some ⟨g, 0, none⟩) (bs.length + l.length) cap) (w.setRow g (cur.toList.take bs.length ++ strCells ⟨l.toArray⟩ ++ cur.toList.drop (bs.length + l.length)).toArray) := by
      simp [Builtin.append_, run_underlying ht, run_underlying hu, sizeOf, typeInfo, hi, hsize, Builtin.lenOf, size_of, hroom, hf, Addr.add_lit, hst]
    refine ⟨_, _, hr, ⟨g, cap, _, fz, by rw [hll], hbg, setRow_heap w g cur _ e _ hg, ?_, by omega, hcm, ?_, ?_⟩, ⟨rfl, rfl, rfl, by simp, fun k _ hk => setRow_other w g k _ (fun e => hk (by simp [Value.ownBlock, e]))⟩⟩
    · intro j hj
      refine hfz j ?_
      simp only [List.size_toArray, List.length_append, List.length_take, List.length_drop, Array.length_toList, strCells_length, size_of] at hj
      omega
    · simp only [List.size_toArray, List.length_append, List.length_take, List.length_drop, Array.length_toList, strCells_length, size_of]
      omega
    · rw [htake, strCells_of, ← List.map_append]
      exact List.take_left' (by rw [List.length_map])
  · have holds : ∀ j u, (bs.map fun b => Value.int .u8 b.toNat)[j]? = some u → w.cell? ((⟨g, 0, none⟩ : Addr).add j) = some u := by
      intro j u hu
      rw [Addr.add_lit, Nat.zero_add, cell_of_row w g j cur e fz hg]
      rw [← htake, List.getElem?_take] at hu
      split at hu
      · simpa using hu
      · cases hu
    have hr := run_append_grow_string (P := P) w t u ty e i (.int .u8 0) ht hu hi hz ⟨g, 0, none⟩ bs.length cap (bs.map fun b => Value.int .u8 b.toNat) (by rw [hsize, List.length_map, Nat.mul_one]) holds ⟨l.toArray⟩ (by rw [size_of]; omega)
      (by rw [size_of]; omega) (by rw [hby, size_of]; exact growslice_fits (by omega) (by omega))
    have hge := grownCap_ge w (bs.length + l.length) cap e
    have hcm2 : grownCap w (bs.length + l.length) cap e ≤ maxLen := grownCap_le_maxLen w (bs.length + l.length) cap e hmax
    rw [size_of] at hr
    have hz1 : (Value.int IntKind.u8 0).cells.size = 1 := rfl
    refine ⟨_, _, hr, ⟨w.heap.size, _, _, (0, 0), by rw [hll], hbase, heap_alloc_new w.drew _, fun j _ h => by simp at h, by omega, hcm2, ?_, ?_⟩, ⟨rfl, rfl, rfl, by simp, fun k hk _ => heap_alloc_old w.drew _ k hk⟩⟩
    · simp only [Array.size_append, List.size_toArray, size_zeroCells, hz1, List.length_map, strCells_length, size_of]
      omega
    · simp only [Array.toList_append, List.append_assoc, strCells_of]
      rw [← List.append_assoc, ← List.map_append]
      exact List.take_left' (by rw [List.length_map])
/-- the operation, for the walk -/
theorem wpList_append_T {ops : Array Oper} {rest : List Oper} {o : Oper} {a : Act} {Q : Exit → Act → World → Prop} (hgd : o.guard = none) (sl x : Operand) (t u : TypeId)
    (ho : o.op = .call { callee := .builtin .append, args := #[sl, x], argTypes := #[t, u] })
    (base : Nat) (e : TypeId) (i : TypeInfo) (ht : P.underlying t = some (.slice e)) (hu : P.underlying u = some .string) (hi : P.info? e = some i) (hz : i.zero = some (.int .u8 0)) (hsize : i.size = 1) (hby : i.bytes = 1)
    (v : Value) (bs l : List UInt8) (hs : a.eval sl = v) (hown : w.ownsT base e v bs) (hx : a.eval x = .string ⟨l.toArray⟩) (hb : bs.length + l.length ≤ 140737488355328) (hbase : base ≤ w.heap.size)
    (h : ∀ v' w', w'.ownsT base e v' (bs ++ l) → w.grownBy w' v.ownBlock → wpList P ops Q rest (a.put o.dst v') w') : wpList P ops Q (o :: rest) a w := by
  refine wpList_plain hgd fun K hK => ?_
  obtain ⟨v', w', hr, h2, h3⟩ := run_append_T (P := P) w base t u o.type e i ht hu hi hz hsize hby v bs l hown hb hbase
  unfold Oper.wp execOp
  simp only [ho, resolve, invoke, builtin, Sem.run_bind, Sem.run_pure, Result.andThen_ok, List.map_toArray, List.map_cons, List.map_nil, hs, hx, hr]
  exact hK _ _ (h v' w' h2 h3)
/-- '[]byte(s)' -/
theorem run_bytes_T (src dst e : TypeId) (l : List UInt8) (hs : P.underlying src = some .string) (hd : P.underlying dst = some (.slice e)) (he : P.underlying e = some (.int .u8)) (hl : l.length ≤ maxLen) :
    ∃ v' w', (convert src dst (.string ⟨l.toArray⟩)).run P w = .ok v' w' ∧ w'.ownsT w.heap.size e v' l ∧ Below w.heap.size w w' := by
  have hr := run_bytes_of_string (P := P) w src dst e ⟨l.toArray⟩ hs hd he
  rw [size_of] at hr
  have hge := grownCap_ge w l.length 0 e
  have hcm := grownCap_le_maxLen w l.length 0 e hl
  have hsz : (bytesRow ⟨l.toArray⟩ (grownCap w l.length 0 e)).size = grownCap w l.length 0 e := by
    unfold bytesRow
    rw [size_of]
    simp
    omega
  refine ⟨_, _, hr, ⟨w.heap.size, _, _, _, rfl, Nat.le_refl _, heap_alloc_new w.drew _, fun j hj h => by simp only at h; omega, hge, hcm, hsz, ?_⟩, ((Below.refl _ _).drew).alloc (Nat.le_refl _) _⟩
  have e1 : (bytesRow ⟨l.toArray⟩ (grownCap w l.length 0 e)).toList = (l.map fun b => Value.int .u8 b.toNat) ++ List.replicate (grownCap w l.length 0 e - l.length) (.int .u8 0) := by
    unfold bytesRow
    rw [size_of]
    simp
  rw [e1]
  exact List.take_left' (by rw [List.length_map])
/-- 'string(b)' -/
theorem run_string_T (src dst e : TypeId) (base : Nat) (v : Value) (l : List UInt8) (hs : P.underlying src = some (.slice e)) (he : P.underlying e = some (.int .u8)) (hd : P.underlying dst = some .string) (hown : w.ownsT base e v l) :
    (convert src dst v).run P w = .ok (.string ⟨l.toArray⟩) w := by
  obtain ⟨g, cap, cur, fz, rfl, hbg, hg, hfz, hnc, hcm, hcs, htake⟩ := hown
  refine run_convert_bytes_back (P := P) w src dst e ⟨g, 0, none⟩ cap l hs he hd (fun j hj => ?_)
  rw [Addr.add_lit, Nat.zero_add, cell_of_row w g j cur e fz hg]
  have h1 : (cur.toList.take l.length)[j]? = some (.int .u8 (l[j].toNat : Int)) := by rw [htake]; simp [hj]
  rw [List.getElem?_take, if_pos hj] at h1
  simpa using h1
end
end Go
