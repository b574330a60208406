/- Rows of cells and of spans in memory, and how they come in. -/
import Derived.Test.YtfkjdjdgcegniaaIntsB
import Derived.Test.YtfkjdjdgcegniaaGrow
import Derived.Test.YtfkjdjdgcegniaaShelf
import Derived.Test.YtfkjdjdgcegniaaOpen
import Derived.Test.YtfkjdjdgcegniaaOpenS
import Derived.Test.YtfkjdjdgcegniaaSpansJ
import Derived.Test.YtfkjdjdgcegniaaSpansO
import Derived.Test.YtfkjdjdgcegniaaKeysF
import Derived.Test.YtfkjdjdgcegniaaRows1
import Derived.Deep.MidRow
import Derived.Lib.Hide
import Derived.Laws.Cover1
import Derived.BigQuiet
import Derived.Deep.QuietTactic
import Derived.OneCell
namespace Go.Proofs.Ytfkjdjdgcegniaa
set_option maxRecDepth 16000
open Go.RowKit Spoor
set_option linter.unusedVariables false

def ceVal (c : Ce) : Value := .agg #[.string ⟨c.k.toArray⟩, .int .i64 c.q, .string ⟨c.v.toArray⟩]
def ceRow (c : Ce) : List Value := [.string ⟨c.k.toArray⟩, .int .i64 c.q, .string ⟨c.v.toArray⟩]
def boxC (c : Ce) : Obj := .cells #[.string ⟨c.k.toArray⟩, .int .i64 c.q, .string ⟨c.v.toArray⟩] 25
def FitsC (c : Ce) : Prop := c.k.length ≤ 140737488351232 ∧ c.v.length ≤ 140737488351232 ∧ c.q ≤ 9223372036854775807
/-- what every cell that comes in is -/
def WfC (c : Ce) : Prop := c.k.length ≤ maxLen ∧ c.v.length ≤ maxLen ∧ c.q ≤ 9223372036854775807
theorem btB {w a b : World} (h : Below w.heap.size w a) (k : Below a.heap.size a b) : Below w.heap.size w b := h.trans (k.mono h.size)
/-- the cells lie in a block from a place on -/
def RowAt (b o : Nat) (l : List Ce) (w : World) : Prop := b < w.heap.size ∧ ∀ i, i < l.length → w.rangeAt b (o + i * 3) (ceRow (l.getD i Ce.zero))
/-- a slice that holds the cells -/
def SlAt (s : Value) (l : List Ce) (w : World) : Prop := ∃ A cap, s = .slice A l.length cap ∧ l.length ≤ cap ∧ cap ≤ maxLen ∧ (0 < l.length → ∃ b o, A = some ⟨b, o, none⟩ ∧ RowAt b o l w)
theorem RowAt.cells {b o : Nat} {l : List Ce} {w : World} (h : RowAt b o l w) {i : Nat} (hi : i < l.length) :
    w.cell? ⟨b, o + i * 3, none⟩ = some (.string ⟨(l.getD i Ce.zero).k.toArray⟩) ∧ w.cell? ⟨b, o + i * 3 + 1, none⟩ = some (.int .i64 (l.getD i Ce.zero).q) ∧ w.cell? ⟨b, o + i * 3 + 2, none⟩ = some (.string ⟨(l.getD i Ce.zero).v.toArray⟩) :=
  ⟨h.2 i hi 0 _ rfl, h.2 i hi 1 _ rfl, h.2 i hi 2 _ rfl⟩
theorem range_later {b o B : Nat} {cs : List Value} {w w' : World} (h : w.rangeAt b o cs) (hb : Below B w w') (hlt : b < B) : w'.rangeAt b o cs := fun j v hv => (hb.cell (p := ⟨b, o + j, none⟩) hlt).trans (h j v hv)
theorem RowAt.later {b o : Nat} {l : List Ce} {w w' : World} {B : Nat} (h : RowAt b o l w) (hb : Below B w w') (hlt : b < B) : RowAt b o l w' :=
  ⟨Nat.lt_of_lt_of_le h.1 hb.size, fun i hi => range_later (h.2 i hi) hb hlt⟩
theorem SlAt.later {s : Value} {l : List Ce} {w w' : World} (h : SlAt s l w) (hb : Below w.heap.size w w') : SlAt s l w' := by
  obtain ⟨A, cap, h1, h2, h3, h4⟩ := h
  refine ⟨A, cap, h1, h2, h3, fun hl => ?_⟩
  obtain ⟨b, o, h5, h6⟩ := h4 hl
  exact ⟨b, o, h5, h6.later hb h6.1⟩
/-- a cell lies in a block of its own -/
def CeAt (b : Nat) (c : Ce) (w : World) : Prop := w.heap[b]? = some (.cells #[.string ⟨c.k.toArray⟩, .int .i64 c.q, .string ⟨c.v.toArray⟩] 25 (0, 0))
theorem CeAt.cell {b : Nat} {c : Ce} {w : World} (h : CeAt b c w) : w.cell? ⟨b, 0, none⟩ = some (.string ⟨c.k.toArray⟩) ∧ w.cell? ⟨b, 1, none⟩ = some (.int .i64 c.q) ∧ w.cell? ⟨b, 2, none⟩ = some (.string ⟨c.v.toArray⟩) := by
  refine ⟨?_, ?_, ?_⟩ <;> (rw [cell_of_row w b _ _ _ _ h]; rfl)
theorem CeAt.frees {b : Nat} {c : Ce} {w : World} (h : CeAt b c w) : w.frozen? ⟨b, 0, none⟩ = false ∧ w.frozen? ⟨b, 1, none⟩ = false ∧ w.frozen? ⟨b, 2, none⟩ = false := by
  refine ⟨?_, ?_, ?_⟩ <;> (unfold CeAt at h; simp [World.frozen?, h])
theorem CeAt.boxed (c : Ce) (w : World) : CeAt w.heap.size c (w.alloc (boxC c)) := heap_alloc_new w _
theorem CeAt.lt {b : Nat} {c : Ce} {w : World} (h : CeAt b c w) : b < w.heap.size := (Array.getElem?_eq_some_iff.1 h).1
theorem CeAt.later {B b : Nat} {c : Ce} {w w' : World} (h : CeAt b c w) (hb : Below B w w') (hlt : b < B) : CeAt b c w' := by
  unfold CeAt; rw [hb.block b hlt]; exact h
theorem CeAt.alloc' {b : Nat} {c : Ce} {w : World} (h : CeAt b c w) (o : Obj) : CeAt b c (w.alloc o) := (Below.heap_alloc w o b h.lt).trans h
theorem getD_lt {l : List Ce} {P : Ce → Prop} (h : ∀ c ∈ l, P c) {i : Nat} (hi : i < l.length) : P (l.getD i Ce.zero) := by
  have : l.getD i Ce.zero = l[i] := by simp [List.getD, hi]
  rw [this]
  exact h _ (List.getElem_mem hi)
def rowOf (l : List Ce) : List Value := l.flatMap ceRow
theorem rowOf_snoc (l : List Ce) (c : Ce) : rowOf (l ++ [c]) = rowOf l ++ ceRow c := by simp [rowOf]
theorem rowOf_length : ∀ l : List Ce, (rowOf l).length = l.length * 3
  | [] => rfl
  | c :: l => by
    have := rowOf_length l
    show (ceRow c ++ rowOf l).length = _
    rw [List.length_append, this]
    simp [ceRow]
    omega
theorem rowOf_at : ∀ (l : List Ce) (i j : Nat), i < l.length → j < 3 → (rowOf l)[i * 3 + j]? = (ceRow (l.getD i Ce.zero))[j]?
  | c :: l, 0, j, _, hj => by
    show (ceRow c ++ rowOf l)[0 * 3 + j]? = _
    rw [List.getElem?_append_left (by simp [ceRow]; omega)]
    simp
  | c :: l, i + 1, j, h, hj => by
    show (ceRow c ++ rowOf l)[(i + 1) * 3 + j]? = _
    rw [List.getElem?_append_right (by simp [ceRow]; omega)]
    have := rowOf_at l i j (by simpa using h) hj
    rw [show (i + 1) * 3 + j - (ceRow c).length = i * 3 + j by simp [ceRow]; omega, this]
    simp
/-- what owns a row of cells is a slice that holds them -/
theorem slAt_own {w : World} {base : Nat} {v : Value} {l : List Ce} (h : w.ownsRow base 25 3 v l.length (rowOf l)) : SlAt v l w := by
  have hc := fun g (hg : v.ownBlock = some g) => h.cells hg
  have hlt := h.lt
  rcases h.2 with ⟨rfl, h0⟩ | ⟨g, cap, cur, rfl, hb, hg, hn, hm, _⟩
  · exact ⟨none, 0, by rw [h0], by omega, by unfold maxLen; omega, fun hl => by omega⟩
  · refine ⟨some ⟨g, 0, none⟩, cap, rfl, hn, hm, fun _ => ⟨g, 0, rfl, (hlt g rfl).2, fun i hi j v hv => ?_⟩⟩
    have hj : j < 3 := by
      have := (List.getElem?_eq_some_iff.1 hv).1
      simpa [ceRow] using this
    have := hc g rfl (i * 3 + j) v (by rw [rowOf_at l i j hi hj]; exact hv)
    rw [Addr.add_lit] at this
    rw [← Nat.add_assoc] at this
    exact this
theorem info_ce : (Try.prog.info? 25).map (fun i => (i.zero, i.size, i.bytes)) = some (some (.agg #[.string ⟨#[]⟩, .int .i64 0, .string ⟨#[]⟩]), 3, 40) := by kernel_rfl
def spRow (x : Sp) : List Value := [.int .i64 x.tr, .int .i64 x.id, .int .i64 x.pa, .string ⟨x.sv.toArray⟩, .string ⟨x.ho.toArray⟩, .int .i64 x.st, .int .i64 x.du, .string ⟨x.no.toArray⟩]
/-- the spans lie in a block from a place on -/
def RowS (b o : Nat) (l : List Sp) (w : World) : Prop := b < w.heap.size ∧ ∀ i, i < l.length → w.rangeAt b (o + i * 8) (spRow (l.getD i Sp.zero))
/-- a slice that holds the spans -/
def SlS (s : Value) (l : List Sp) (w : World) : Prop := ∃ A cap, s = .slice A l.length cap ∧ l.length ≤ cap ∧ cap ≤ maxLen ∧ (0 < l.length → ∃ b o, A = some ⟨b, o, none⟩ ∧ RowS b o l w)
theorem RowS.cells {b o : Nat} {l : List Sp} {w : World} (h : RowS b o l w) {i : Nat} (hi : i < l.length) :
    w.cell? ⟨b, o + i * 8, none⟩ = some (.int .i64 (l.getD i Sp.zero).tr) ∧ w.cell? ⟨b, o + i * 8 + 1, none⟩ = some (.int .i64 (l.getD i Sp.zero).id) ∧ w.cell? ⟨b, o + i * 8 + 2, none⟩ = some (.int .i64 (l.getD i Sp.zero).pa) ∧
    w.cell? ⟨b, o + i * 8 + 3, none⟩ = some (.string ⟨(l.getD i Sp.zero).sv.toArray⟩) ∧ w.cell? ⟨b, o + i * 8 + 4, none⟩ = some (.string ⟨(l.getD i Sp.zero).ho.toArray⟩) ∧ w.cell? ⟨b, o + i * 8 + 5, none⟩ = some (.int .i64 (l.getD i Sp.zero).st) ∧
    w.cell? ⟨b, o + i * 8 + 6, none⟩ = some (.int .i64 (l.getD i Sp.zero).du) ∧ w.cell? ⟨b, o + i * 8 + 7, none⟩ = some (.string ⟨(l.getD i Sp.zero).no.toArray⟩) :=
  ⟨h.2 i hi 0 _ rfl, h.2 i hi 1 _ rfl, h.2 i hi 2 _ rfl, h.2 i hi 3 _ rfl, h.2 i hi 4 _ rfl, h.2 i hi 5 _ rfl, h.2 i hi 6 _ rfl, h.2 i hi 7 _ rfl⟩
theorem RowS.later {b o : Nat} {l : List Sp} {w w' : World} {B : Nat} (h : RowS b o l w) (hb : Below B w w') (hlt : b < B) : RowS b o l w' :=
  ⟨Nat.lt_of_lt_of_le h.1 hb.size, fun i hi => range_later (h.2 i hi) hb hlt⟩
theorem SlS.later {s : Value} {l : List Sp} {w w' : World} (h : SlS s l w) (hb : Below w.heap.size w w') : SlS s l w' := by
  obtain ⟨A, cap, h1, h2, h3, h4⟩ := h
  refine ⟨A, cap, h1, h2, h3, fun hl => ?_⟩
  obtain ⟨b, o, h5, h6⟩ := h4 hl
  exact ⟨b, o, h5, h6.later hb h6.1⟩
theorem getS_lt {l : List Sp} {P : Sp → Prop} (h : ∀ c ∈ l, P c) {i : Nat} (hi : i < l.length) : P (l.getD i Sp.zero) := by
  have : l.getD i Sp.zero = l[i] := by simp [List.getD, hi]
  rw [this]
  exact h _ (List.getElem_mem hi)
theorem take_sp (l : List Sp) (k : Nat) (h : k < l.length) : l.take (k + 1) = l.take k ++ [l.getD k Sp.zero] := by
  rw [List.take_succ_eq_append_getElem h]
  simp [List.getD, h]
def rowS (l : List Sp) : List Value := l.flatMap spRow
theorem rowS_snoc (l : List Sp) (c : Sp) : rowS (l ++ [c]) = rowS l ++ spRow c := by simp [rowS]
theorem rowS_length : ∀ l : List Sp, (rowS l).length = l.length * 8
  | [] => rfl
  | c :: l => by
    have := rowS_length l
    show (spRow c ++ rowS l).length = _
    rw [List.length_append, this]
    simp [spRow]
    omega
theorem rowS_at : ∀ (l : List Sp) (i j : Nat), i < l.length → j < 8 → (rowS l)[i * 8 + j]? = (spRow (l.getD i Sp.zero))[j]?
  | c :: l, 0, j, _, hj => by
    show (spRow c ++ rowS l)[0 * 8 + j]? = _
    rw [List.getElem?_append_left (by simp [spRow]; omega)]
    simp
  | c :: l, i + 1, j, h, hj => by
    show (spRow c ++ rowS l)[(i + 1) * 8 + j]? = _
    rw [List.getElem?_append_right (by simp [spRow]; omega)]
    have := rowS_at l i j (by simpa using h) hj
    rw [show (i + 1) * 8 + j - (spRow c).length = i * 8 + j by simp [spRow]; omega, this]
    simp
/-- what owns a row of spans is a slice that holds them -/
theorem slS_own {w : World} {base : Nat} {v : Value} {l : List Sp} (h : w.ownsRow base 23 8 v l.length (rowS l)) : SlS v l w := by
  have hc := fun g (hg : v.ownBlock = some g) => h.cells hg
  have hlt := h.lt
  rcases h.2 with ⟨rfl, h0⟩ | ⟨g, cap, cur, rfl, hb, hg, hn, hm, _⟩
  · exact ⟨none, 0, by rw [h0], by omega, by unfold maxLen; omega, fun hl => by omega⟩
  · refine ⟨some ⟨g, 0, none⟩, cap, rfl, hn, hm, fun _ => ⟨g, 0, rfl, (hlt g rfl).2, fun i hi j v hv => ?_⟩⟩
    have hj : j < 8 := by
      have := (List.getElem?_eq_some_iff.1 hv).1
      simpa [spRow] using this
    have := hc g rfl (i * 8 + j) v (by rw [rowS_at l i j hi hj]; exact hv)
    rw [Addr.add_lit] at this
    rw [← Nat.add_assoc] at this
    exact this
theorem info_sp : (Try.prog.info? 23).map (fun i => (i.zero, i.size, i.bytes)) = some (some (.agg #[.int .i64 0, .int .i64 0, .int .i64 0, .string ⟨#[]⟩, .string ⟨#[]⟩, .int .i64 0, .int .i64 0, .string ⟨#[]⟩]), 8, 88) := by kernel_rfl
theorem spRow_one (c : Sp) : ∀ u ∈ spRow c, u.oneCell' = true := by
  intro u hu
  simp only [spRow, List.mem_cons, List.not_mem_nil, or_false] at hu
  rcases hu with rfl | rfl | rfl | rfl | rfl | rfl | rfl | rfl <;> rfl
theorem own_laterS {w w' : World} {base n : Nat} {v : Value} {xs : List Value} {e : TypeId} (h : w.ownsRow base e 8 v n xs) (hb : Below w.heap.size w w') : w'.ownsRow base e 8 v n xs :=
  h.kept (row := none) ⟨hb.os, hb.tape, hb.output, hb.size, fun k hk _ => hb.block k hk⟩ (by cases h : v.ownBlock <;> simp)
theorem blk_later {b : Nat} {o : Obj} {W W' : World} (h : W.heap[b]? = some o) (hb : Below W.heap.size W W') : W'.heap[b]? = some o := by
  rw [hb.block b ((Array.getElem?_eq_some_iff.1 h).1)]; exact h
theorem blk_other {b : Nat} {o : Obj} {W : World} (h : W.heap[b]? = some o) (a : Addr) (hne : b ≠ a.block) (v : Value) : (W.setCell a v).heap[b]? = some o := (Below.heap_setCell W a v b hne).trans h
theorem btP {w a b : World} (h : Below w.heap.size w a) (k : Below a.heap.size a b) : Below w.heap.size w b := h.trans (k.mono h.size)
theorem cells3 {w : World} {g : Nat} {a b c : Value} {t : TypeId} (h : w.heap[g]? = some (.cells #[a, b, c] t (0, 0))) : w.cell? ⟨g, 0, none⟩ = some a ∧ w.cell? ⟨g, 1, none⟩ = some b ∧ w.cell? ⟨g, 2, none⟩ = some c := by
  refine ⟨?_, ?_, ?_⟩ <;> (rw [cell_of_row w g _ _ _ _ h]; rfl)
theorem neq_sp (x y : Sp) (W : World) : (binOp .neq 23 (spVal x) (spVal y)).run Try.prog W = .ok (.bool (!decide (x = y))) W := by
  unfold spVal
  go_simp
  obtain ⟨a1, a2, a3, a4, a5, a6, a7, a8⟩ := x
  obtain ⟨b1, b2, b3, b4, b5, b6, b7, b8⟩ := y
  simp only [Sp.mk.injEq]
  by_cases h1 : a1 = b1 <;> by_cases h2 : a2 = b2 <;> by_cases h3 : a3 = b3 <;> by_cases h4 : a4 = b4 <;> simp [*]
  by_cases h5 : a5 = b5 <;> by_cases h6 : a6 = b6 <;> by_cases h7 : a7 = b7 <;> by_cases h8 : a8 = b8 <;> simp [*]
theorem same_takeS {l m : List Sp} (hlm : l.length = m.length) {k : Nat} (hk : k < l.length) (h : l.take k = m.take k) : (l.take (k + 1) = m.take (k + 1)) ↔ l.getD k Sp.zero = m.getD k Sp.zero := by
  rw [take_sp l k hk, take_sp m k (by omega), h, List.append_cancel_left_eq]
  simp
theorem rowS_one (l : List Sp) : ∀ u ∈ rowS l, u.oneCell' = true := by
  intro u hu
  unfold rowS at hu
  obtain ⟨c, _, hc⟩ := List.mem_flatMap.1 hu
  exact spRow_one c u hc
theorem sl_cells {ad : Addr} {n c : Nat} {l : List Sp} {w : World} (h : SlS (.slice (some ad) n c) l w) : ∀ j u, (rowS l)[j]? = some u → w.cell? (ad.add j) = some u := by
  intro j u hj
  have hjl : j < l.length * 8 := by
    have := (List.getElem?_eq_some_iff.1 hj).1
    rwa [rowS_length] at this
  obtain ⟨A, cap, he, _, _, hrow⟩ := h
  obtain ⟨b, o, hab, hrow⟩ := hrow (by omega)
  injection he with he _ _
  rw [← he] at hab
  simp only [Option.some.injEq] at hab
  subst hab
  have h1 : j = (j / 8) * 8 + j % 8 := by omega
  rw [Addr.add_mid]
  have hr := rowS_at l (j / 8) (j % 8) (by omega) (by omega)
  rw [← h1, hj] at hr
  have := hrow.2 (j / 8) (by omega) (j % 8) u hr.symm
  rwa [show o + j / 8 * 8 + j % 8 = o + j by omega] at this
theorem ceRow_one (c : Ce) : ∀ u ∈ ceRow c, u.oneCell' = true := by
  intro u hu
  simp only [ceRow, List.mem_cons, List.not_mem_nil, or_false] at hu
  rcases hu with rfl | rfl | rfl <;> rfl
theorem rowOf_one (l : List Ce) : ∀ u ∈ rowOf l, u.oneCell' = true := by
  intro u hu
  unfold rowOf at hu
  obtain ⟨c, _, hc⟩ := List.mem_flatMap.1 hu
  exact ceRow_one c u hc
end Go.Proofs.Ytfkjdjdgcegniaa
namespace Go.Opens
open Go.ChangeShapes Go.WideShapes Go.Deep
section
variable {H : Type} {enc : TypeId × Value → H} {P : Program} {w : World} {base : Nat} {spare : Nat → Bool} {held : Bool}
/-- every element of a slice of structs that is a field -/
theorem open_structs1 {t e : TypeId} {fs : Array Field} {v : Value} {n0 : Nat} {y : DataW H × List MemPlace} (ht : P.underlying t = some (.slice e)) (hs : P.underlying e = some (.struct fs)) (hone : oneCellFields P fs = true) (hC : P.cellsOf e = fs.size)
    (hf : DataW.trod enc P w base spare held n0 t [v] = some y) :
    v = .slice none 0 0 ∨ ∃ (a : Addr) (len cap : Nat), v = .slice (some a) len cap ∧ len ≤ cap ∧ cap ≤ maxLen ∧
      ∀ i, i < len → ∃ cs : List Value, cs.length = fs.size ∧ (∀ j u, cs[j]? = some u → w.cell? (a.add (i * fs.size + j)) = some u) ∧
        ∃ (ys : List (DataW H × List MemPlace)) (m : Nat), ys.length = fs.size ∧ ∀ (j : Nat) (f : Field) (c : Value) (y : DataW H × List MemPlace), fs[j]? = some f → cs[j]? = some c → ys[j]? = some y → DataW.trod enc P w base spare held m f.type [c] = some y := by
  rcases open_slice ht hf with ⟨h1, _⟩ | ⟨a, len, cap, m, n, D, Pl, h1, _, hl, hm, hmm, _, hi⟩
  · simp only [List.cons.injEq, and_true] at h1
    exact .inl h1
  · simp only [List.cons.injEq, and_true] at h1
    refine .inr ⟨a, len, cap, h1, hl, hm, fun i hil => ?_⟩
    obtain ⟨cs, hc, ht'⟩ := hi i (by rw [hmm]; split <;> omega)
    rw [hC] at hc
    obtain ⟨_, hcl, hat⟩ := World.cells?_some hc
    refine ⟨cs, hcl, fun j u hj => ?_, elem_fields hs hone hcl ht'⟩
    have hjl : j < fs.size := by
      have := (List.getElem?_eq_some_iff.1 hj).1
      omega
    rw [← Go.Deep.add_add, hat j hjl]
    exact hj
end
end Go.Opens
namespace Go.Proofs.Ytfkjdjdgcegniaa
set_option maxRecDepth 16000
open Go.RowKit Go.ChangeShapes Go.WideShapes Spoor Go.Opens
section
variable {H : Type} {enc : TypeId × Value → H} {w : World} {base : Nat} {spare : Nat → Bool} {held : Bool}
theorem wf_i64 {n : Int} (h : (Lit.int IntKind.i64 n).wf = true) : -9223372036854775808 ≤ n ∧ n ≤ 9223372036854775807 := by
  simpa [Lit.wf, IntKind.min, IntKind.max, IntKind.signed, IntKind.bits] using h
/-- a span's texts are texts -/
def WfS (x : Sp) : Prop := (x.sv.length ≤ maxLen ∧ x.ho.length ≤ maxLen ∧ x.no.length ≤ maxLen)
theorem open_spans1 {v : Value} {n0 : Nat} {y : DataW H × List MemPlace} (h : DataW.trod enc Try.prog w base spare held n0 27 [v] = some y) :
    ∃ l : List Sp, SlS v l w ∧ (v = .slice none 0 0 ∨ ∃ ad n c, v = .slice (some ad) n c) ∧ ∀ c ∈ l, WfS c := by
  rcases open_structs1 Try.underlying27 Try.underlying23 (by kernel_rfl) (by kernel_rfl) h with rfl | ⟨a, len, cap, rfl, hl, hm, hi⟩
  · exact ⟨[], ⟨none, 0, rfl, by simp, by unfold maxLen; omega, fun h => by simp at h⟩, .inl rfl, by simp⟩
  · have hc : ∀ i, i < len → ∃ c : Sp, (∀ j u, (spRow c)[j]? = some u → w.cell? (a.add (i * 8 + j)) = some u) ∧ WfS c := by
      intro i hil
      obtain ⟨cs, hcl, hat, ys, m, hyl, hf⟩ := hi i hil
      match cs, hcl, ys, hyl with
      | [c0, c1, c2, c3, c4, c5, c6, c7], _, [y0, y1, y2, y3, y4, y5, y6, y7], _ =>
        have t0 := hf 0 _ _ _ rfl rfl rfl
        have t1 := hf 1 _ _ _ rfl rfl rfl
        have t2 := hf 2 _ _ _ rfl rfl rfl
        have t3 := hf 3 _ _ _ rfl rfl rfl
        have t4 := hf 4 _ _ _ rfl rfl rfl
        have t5 := hf 5 _ _ _ rfl rfl rfl
        have t6 := hf 6 _ _ _ rfl rfl rfl
        have t7 := hf 7 _ _ _ rfl rfl rfl
        obtain ⟨n0, e0, rfl, w0⟩ := DataW.trod_int Try.underlying3 t0
        obtain ⟨n1, e1, rfl, w1⟩ := DataW.trod_int Try.underlying3 t1
        obtain ⟨n2, e2, rfl, w2⟩ := DataW.trod_int Try.underlying3 t2
        obtain ⟨n3, e3, rfl, w3⟩ := DataW.trod_string Try.underlying9 t3
        obtain ⟨n4, e4, rfl, w4⟩ := DataW.trod_string Try.underlying9 t4
        obtain ⟨n5, e5, rfl, w5⟩ := DataW.trod_int Try.underlying3 t5
        obtain ⟨n6, e6, rfl, w6⟩ := DataW.trod_int Try.underlying3 t6
        obtain ⟨n7, e7, rfl, w7⟩ := DataW.trod_string Try.underlying9 t7
        simp only [List.cons.injEq, and_true] at e0 e1 e2 e3 e4 e5 e6 e7
        subst e0 e1 e2 e3 e4 e5 e6 e7
        have l3 : n3.data.toList.length = n3.size := by { rw [Array.length_toList]; rfl }
        have l4 : n4.data.toList.length = n4.size := by { rw [Array.length_toList]; rfl }
        have l7 : n7.data.toList.length = n7.size := by { rw [Array.length_toList]; rfl }
        have s3 : (⟨n3.data.toList.toArray⟩ : ByteArray) = n3 := by cases n3; simp
        have s4 : (⟨n4.data.toList.toArray⟩ : ByteArray) = n4 := by cases n4; simp
        have s7 : (⟨n7.data.toList.toArray⟩ : ByteArray) = n7 := by cases n7; simp
        refine ⟨⟨n0, n1, n2, n3.data.toList, n4.data.toList, n5, n6, n7.data.toList⟩, fun j u hj => hat j u ?_, by dsimp only; omega, by dsimp only; omega, by dsimp only; omega⟩
        unfold spRow at hj
        simp only [s3, s4, s7] at hj
        exact hj
    have : Inhabited Sp := ⟨Sp.zero⟩
    obtain ⟨C, hC⟩ := Go.Deep.choose_lt hc
    have hlen : ((List.range len).map C).length = len := by simp
    have hg : ∀ i, i < len → ((List.range len).map C).getD i Sp.zero = C i := fun i hi => by simp [List.getD, hi]
    refine ⟨(List.range len).map C, ⟨some a, cap, by rw [hlen], by omega, hm, fun h => ?_⟩, .inr ⟨a, len, cap, rfl⟩, ?_⟩
    · have h0 : 0 < len := by omega
      have c00 := (hC 0 h0).1 0 _ rfl
      obtain ⟨b, o, sp⟩ := a
      have hspot : sp = none := by simpa [Addr.add] using World.cell?_spot c00
      subst hspot
      refine ⟨b, o, rfl, ?_, fun i hi j u hj => ?_⟩
      · have := World.block_lt_of_cell? _ _ c00
        simpa [Addr.add] using this
      · rw [hlen] at hi
        rw [hg i hi] at hj
        have := (hC i hi).1 j u hj
        rw [Addr.add_lit] at this
        rwa [← Nat.add_assoc] at this
    · intro c hc
      obtain ⟨i, hi, rfl⟩ := List.mem_map.1 hc
      exact (hC i (List.mem_range.1 hi)).2
theorem open_cells {r : Reach} {b0 : Nat} {v : Value} {d : DataW H} {p : List MemPlace} (hv : Value.okWide Try.prog w r b0 29 v) (h : DataW.Trod enc Try.prog w base spare held 29 v d p) :
    ∃ l : List Ce, SlAt v l w ∧ (v = .slice none 0 0 ∨ ∃ ad n c, v = .slice (some ad) n c) ∧ ∀ c ∈ l, WfC c := by
  have hcell : v.cells.toList = [v] := by
    obtain ⟨a, len, cap, rfl⟩ := okWide_slice Try.underlying29 hv
    rfl
  rcases open_structs Try.underlying29 Try.underlying25 (by kernel_rfl) (by kernel_rfl) h hcell with rfl | ⟨a, len, cap, rfl, hl, hm, hi⟩
  · exact ⟨[], ⟨none, 0, rfl, by simp, by unfold maxLen; omega, fun h => by simp at h⟩, .inl rfl, by simp⟩
  · have hc : ∀ i, i < len → ∃ c : Ce, (∀ j u, (ceRow c)[j]? = some u → w.cell? (a.add (i * 3 + j)) = some u) ∧ WfC c := by
      intro i hil
      obtain ⟨cs, hcl, hat, ys, m, hyl, hf⟩ := hi i hil
      match cs, hcl, ys, hyl with
      | [c0, c1, c2], _, [y0, y1, y2], _ =>
        have t0 := hf 0 _ _ _ rfl rfl rfl
        have t1 := hf 1 _ _ _ rfl rfl rfl
        have t2 := hf 2 _ _ _ rfl rfl rfl
        obtain ⟨n0, e0, rfl, w0⟩ := DataW.trod_string Try.underlying9 t0
        obtain ⟨n1, e1, rfl, w1⟩ := DataW.trod_int Try.underlying3 t1
        obtain ⟨n2, e2, rfl, w2⟩ := DataW.trod_string Try.underlying9 t2
        simp only [List.cons.injEq, and_true] at e0 e1 e2
        subst e0 e1 e2
        have l0 : n0.data.toList.length = n0.size := by { rw [Array.length_toList]; rfl }
        have l2 : n2.data.toList.length = n2.size := by { rw [Array.length_toList]; rfl }
        have s0 : (⟨n0.data.toList.toArray⟩ : ByteArray) = n0 := by cases n0; simp
        have s2 : (⟨n2.data.toList.toArray⟩ : ByteArray) = n2 := by cases n2; simp
        refine ⟨⟨n0.data.toList, n1, n2.data.toList⟩, fun j u hj => hat j u ?_, by dsimp only; omega, by dsimp only; omega, ?_⟩
        · unfold ceRow at hj
          simp only [s0, s2] at hj
          exact hj
        · have := w1
          simp [Lit.wf] at this
          simp only
          omega
    have : Inhabited Ce := ⟨Ce.zero⟩
    obtain ⟨C, hC⟩ := Go.Deep.choose_lt hc
    have hlen : ((List.range len).map C).length = len := by simp
    have hg : ∀ i, i < len → ((List.range len).map C).getD i Ce.zero = C i := fun i hi => by simp [List.getD, hi]
    refine ⟨(List.range len).map C, ⟨some a, cap, by rw [hlen], by omega, hm, fun h => ?_⟩, .inr ⟨a, len, cap, rfl⟩, ?_⟩
    · have h0 : 0 < len := by omega
      have c00 := (hC 0 h0).1 0 _ rfl
      obtain ⟨b, o, sp⟩ := a
      have hspot : sp = none := by simpa [Addr.add] using World.cell?_spot c00
      subst hspot
      refine ⟨b, o, rfl, ?_, fun i hi j u hj => ?_⟩
      · have := World.block_lt_of_cell? _ _ c00
        simpa [Addr.add] using this
      · rw [hlen] at hi
        rw [hg i hi] at hj
        have := (hC i hi).1 j u hj
        rw [Addr.add_lit] at this
        rwa [← Nat.add_assoc] at this
    · intro c hc
      obtain ⟨i, hi, rfl⟩ := List.mem_map.1 hc
      exact (hC i (List.mem_range.1 hi)).2
end
end Go.Proofs.Ytfkjdjdgcegniaa
