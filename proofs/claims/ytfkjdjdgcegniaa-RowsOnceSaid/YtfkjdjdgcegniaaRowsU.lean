/- The walk of RowsOnce. -/
import Derived.Test.YtfkjdjdgcegniaaRowsT
import Derived.Test.YtfkjdjdgcegniaaRowsL
import Derived.Laws.AppendOwnNone
import Derived.OwnWalk
import Derived.ChangeSlices
import Derived.Test.YtfkjdjdgcegniaaRowsO
namespace Go
section
variable {P : Program} (w : World)
theorem run_append_owned_zero (base : Nat) (t ty e : TypeId) (i : TypeInfo) (size : Nat) (ht : P.underlying t = some (.slice e)) (hi : P.info? e = some i)
    (v : Value) (n : Nat) (xs : List Value) (hown : w.ownsRow base e size v n xs) (A : Option Addr) (c : Nat) :
    (Builtin.append_ #[t, t] ty #[v, .slice A 0 c]).run P w = .ok v w := by
  cases A <;> rcases hown.2 with ⟨rfl, rfl⟩ | ⟨g, cap, cur, rfl, _, _, hnc, _⟩
  · simp [Builtin.append_, run_underlying ht, sizeOf, typeInfo, hi, Builtin.lenOf, Builtin.firstCells]
  · simp [Builtin.append_, run_underlying ht, sizeOf, typeInfo, hi, Builtin.lenOf, Builtin.firstCells, hnc, storeCells]
  · simp [Builtin.append_, run_underlying ht, sizeOf, typeInfo, hi, Builtin.lenOf, Builtin.firstCells, loadCells, loadCellsFrom, storeCells]
  · simp [Builtin.append_, run_underlying ht, sizeOf, typeInfo, hi, Builtin.lenOf, Builtin.firstCells, hnc, loadCells, loadCellsFrom, storeCells]
/-- append, however many are appended, none too -/
theorem wpList_append_every {ops : Array Oper} {rest : List Oper} {o : Oper} {a : Act} {Q : Exit → Act → World → Prop} (hgd : o.guard = none) (s x : Operand) (t : TypeId)
    (ho : o.op = .call { callee := .builtin .append, args := #[s, x], argTypes := #[t, t] })
    (base : Nat) (e : TypeId) (i : TypeInfo) (z : Value) (size bytes : Nat) (ht : P.underlying t = some (.slice e)) (hi : P.info? e = some i) (hz : i.zero = some z)
    (hsize : i.size = size) (hby : i.bytes = bytes) (hzs : z.cells.size = size) (hsz : 0 < size)
    (v : Value) (n : Nat) (xs : List Value) (hs : a.eval s = v) (hown : w.ownsRow base e size v n xs)
    (A : Option Addr) (m c : Nat) (news : List Value) (hx : a.eval x = .slice A m c) (hl : news.length = m * size) (hsrc : 0 < m → ∃ ad, A = some ad ∧ ∀ j u, news[j]? = some u → w.cell? (ad.add j) = some u) (h1 : ∀ u ∈ news, u.oneCell' = true)
    (h63 : n + m ≤ maxLen) (hbytes : (n + m) * bytes ≤ 140737488355328) (hbase : base ≤ w.heap.size)
    (h : ∀ v' w', w'.ownsRow base e size v' (n + m) (xs ++ news) → w.grownBy w' v.ownBlock → wpList P ops Q rest (a.put o.dst v') w') : wpList P ops Q (o :: rest) a w := by
  by_cases hm : 0 < m
  · obtain ⟨ad, rfl, hnews⟩ := hsrc hm
    exact wpList_append_lies w hgd s x t ho base e i z size bytes ht hi hz hsize hby hzs hsz v n xs hs hown ad m c news hx hl hnews h1 hm h63 hbytes hbase _ rfl fun g cap w' h2 h3 _ _ => h _ w' h2 h3
  · obtain rfl : m = 0 := by omega
    have hnews : news = [] := List.eq_nil_of_length_eq_zero (by simpa using hl)
    subst hnews
    refine wpList_plain hgd fun K hK' => ?_
    have hrun := run_append_owned_zero (P := P) w base t o.type e i size ht hi v n xs hown A c
    unfold Oper.wp
    simp [execOp, ho, resolve, invoke, builtin, hs, hx, hrun, Result.andThen]
    exact hK' _ _ (h v w (by simpa using hown) (World.grownBy.refl _ _))
end
end Go
namespace Go.Proofs.Ytfkjdjdgcegniaa
set_option maxRecDepth 16000
open Go.RowKit Spoor
set_option linter.unusedVariables false

/-- where a list is cut -/
def CutsAt (v : Value) (us : List Int) (w : World) : Prop := ∃ A cap, v = .slice A us.length cap ∧ us.length ≤ cap ∧ cap ≤ maxLen ∧ (0 < us.length → ∃ b o, A = some ⟨b, o, none⟩ ∧ b < w.heap.size ∧ ∀ i, i < us.length → w.cell? ⟨b, o + i, none⟩ = some (.int .u8 (us.getD i 0)))
def U8 (n : Int) : Prop := 0 ≤ n ∧ n ≤ 255
theorem CutsAt.later {v : Value} {us : List Int} {w w' : World} (h : CutsAt v us w) (hb : Below w.heap.size w w') : CutsAt v us w' := by
  obtain ⟨A, cap, h1, h2, h3, h4⟩ := h
  refine ⟨A, cap, h1, h2, h3, fun hp => ?_⟩
  obtain ⟨b, o, h5, h6, h7⟩ := h4 hp
  exact ⟨b, o, h5, Nat.lt_of_lt_of_le h6 hb.size, fun i hi => (hb.cell (p := ⟨b, o + i, none⟩) h6).trans (h7 i hi)⟩
theorem cuts_at {A : Option Addr} {n cap : Nat} {us : List Int} {w : World} (h : CutsAt (.slice A n cap) us w) (hp : 0 < us.length) : ∃ b o, A = some ⟨b, o, none⟩ ∧ b < w.heap.size ∧ ∀ i, i < us.length → w.cell? ⟨b, o + i, none⟩ = some (.int .u8 (us.getD i 0)) := by
  obtain ⟨A2, c2, he, _, _, hr⟩ := h
  obtain ⟨b, o, h1, h2⟩ := hr hp
  injection he with he _ _
  exact ⟨b, o, he.trans h1, h2⟩
section
open Go.ChangeShapes Go.WideShapes Go.Opens
variable {H : Type} {enc : TypeId × Value → H} {w : World} {base : Nat} {spare : Nat → Bool} {held : Bool}
theorem wf_u8 {n : Int} (h : (Lit.int IntKind.u8 n).wf = true) : 0 ≤ n ∧ n ≤ 255 := by
  simpa [Lit.wf, IntKind.min, IntKind.max, IntKind.signed, IntKind.bits] using h
theorem open_cuts {r : Reach} {b0 : Nat} {v : Value} {d : DataW H} {p : List MemPlace} (hv : Value.okWide Try.prog w r b0 41 v) (h : DataW.Trod enc Try.prog w base spare held 41 v d p) :
    ∃ us : List Int, CutsAt v us w ∧ (v = .slice none 0 0 ∨ ∃ ad n c, v = .slice (some ad) n c) ∧ ∀ u ∈ us, U8 u := by
  have hcell : v.cells.toList = [v] := by
    obtain ⟨a, len, cap, rfl⟩ := okWide_slice Try.underlying41 hv
    rfl
  obtain ⟨m, hm⟩ := h
  rw [hcell] at hm
  rcases open_ints Try.underlying41 Try.underlying5 (by kernel_rfl) hm with ⟨h1, _⟩ | ⟨a, len, cap, zs, h1, _, hlc, hcm, hzl, _, hc, hw⟩
  · simp only [List.cons.injEq, and_true] at h1
    subst h1
    exact ⟨[], ⟨none, 0, rfl, by simp, by unfold maxLen; omega, fun h => by simp at h⟩, .inl rfl, by simp⟩
  · simp only [List.cons.injEq, and_true] at h1
    subst h1
    have hll : len ≤ zs.length := by rw [hzl]; split <;> omega
    have htl : (zs.take len).length = len := by rw [List.length_take]; omega
    refine ⟨zs.take len, ⟨some a, cap, by rw [htl], by omega, hcm, fun h => ?_⟩, .inr ⟨a, len, cap, rfl⟩, fun u hu => wf_u8 (hw u (List.mem_of_mem_take hu))⟩
    have h0 : 0 < len := by omega
    have c00 := hc 0 (by omega)
    obtain ⟨b, o, sp⟩ := a
    have hspot : sp = none := by simpa [Addr.add] using World.cell?_spot c00
    subst hspot
    refine ⟨b, o, rfl, ?_, fun i hi => ?_⟩
    · have := World.block_lt_of_cell? _ _ c00
      simpa [Addr.add] using this
    · rw [htl] at hi
      have := hc i (by omega)
      rw [Addr.add_lit] at this
      rw [this]
      simp [List.getD, hi, show i < zs.length by omega]
end
/-- the lists, and the world's own -/
structure OA (W : World) (lv : Value) (l : List Sp) (uv : Value) (us : List Int) (wr : World) : Prop where
  sl : SlS lv l wr
  su : CutsAt uv us wr
  bel : Below W.heap.size W wr
theorem OA.later {W : World} {lv : Value} {l : List Sp} {uv : Value} {us : List Int} {wr w' : World} (h : OA W lv l uv us wr) (hb : Below wr.heap.size wr w') : OA W lv l uv us w' := ⟨h.sl.later hb, h.su.later hb, btP h.bel hb⟩
theorem pair_more {l : List Sp} {i : Nat} (hi : i < l.length) (h : (l.take i).Pairwise fun x y => sameIds x y = false) (h2 : ∀ j, j < i → sameIds (l.getD j Sp.zero) (l.getD i Sp.zero) = false) : (l.take (i + 1)).Pairwise fun x y => sameIds x y = false := by
  rw [take_sp l i hi, List.pairwise_append]
  refine ⟨h, by simp, ?_⟩
  intro a ha b hb
  simp only [List.mem_singleton] at hb
  subst hb
  obtain ⟨j, hj, rfl⟩ := List.getElem_of_mem ha
  have hj2 : j < i := by rw [List.length_take] at hj; omega
  have := h2 j hj2
  rw [show l.getD j Sp.zero = (l.take i)[j] by simp [List.getD, show j < l.length by omega]] at this
  exact this
theorem own_set {w : World} {base n sz : Nat} {e : TypeId} {v u : Value} {xs : List Value} {p : Nat} (h : w.ownsRow base e sz v n xs) (hp : p < base) : (w.setCell ⟨p, 0, none⟩ u).ownsRow base e sz v n xs := by
  refine ⟨h.1, ?_⟩
  rcases h.2 with ⟨h1, h2⟩ | ⟨g1, cap1, cur1, h1, h2, hg1, h3⟩
  · exact .inl ⟨h1, h2⟩
  · refine .inr ⟨g1, cap1, cur1, h1, h2, ?_, h3⟩
    rw [Below.heap_setCell w ⟨p, 0, none⟩ u g1 (by show g1 ≠ p; omega)]
    exact hg1
theorem fits_app {l : List Sp} (h : ∀ x ∈ l, x.ok = true) : ∀ c ∈ cellsOf l, FitsC c := fits_cellsOf h
theorem takes_ok {l : List Sp} {now : Int} : ∀ x ∈ l.filter (takes now), x.ok = true := by
  intro x hx
  have := (List.mem_filter.1 hx).2
  unfold takes at this
  simp only [Bool.and_eq_true] at this
  exact this.1
/-- a slice of a slice of spans -/
theorem SlS.cut {b o cap : Nat} {l : List Sp} {w : World} (h : SlS (.slice (some ⟨b, o, none⟩) l.length cap) l w) {lo hi : Nat} (h1 : lo ≤ hi) (h2 : hi ≤ l.length) : SlS (.slice (some ⟨b, o + lo * 8, none⟩) (hi - lo) (cap - lo)) ((l.drop lo).take (hi - lo)) w := by
  obtain ⟨A, c, he, h3, h4, h5⟩ := h
  injection he with he1 _ he2
  subst he2
  have hlen : ((l.drop lo).take (hi - lo)).length = hi - lo := by rw [List.length_take, List.length_drop]; omega
  refine ⟨some ⟨b, o + lo * 8, none⟩, cap - lo, by rw [hlen], by omega, by omega, fun hp => ⟨b, o + lo * 8, rfl, ?_⟩⟩
  obtain ⟨b2, o2, h6, h7, h8⟩ := h5 (by omega)
  rw [← he1] at h6
  simp only [Option.some.injEq, Addr.mk.injEq, and_true] at h6
  obtain ⟨rfl, rfl⟩ := h6
  refine ⟨h7, fun i hi2 => ?_⟩
  rw [hlen] at hi2
  have := h8 (lo + i) (by omega)
  rw [show o + lo * 8 + i * 8 = o + (lo + i) * 8 by omega]
  rw [show ((l.drop lo).take (hi - lo)).getD i Sp.zero = l.getD (lo + i) Sp.zero by simp [List.getD, List.getElem?_take, hi2, List.getElem?_drop]]
  exact this
/-- loop 3: pieces -/
structure L3 (wa w6 : World) (p : Nat) (lv : Value) (l : List Sp) (uv : Value) (us : List Int) (ov : Value) (R : List Sp) (now : Int) (k i : Nat) (b sv : Value) (acc : List Sp) (wr : World) : Prop where
  le : k ≤ l.length
  acc' : acc = (l.take k).filter (takes now)
  own : wr.ownsRow w6.heap.size 23 8 b acc.length (rowS acc)
  sh : wr.heap[p]? = some (.cells #[sv] 44 (0, 0))
  ss : wr.ownsRow w6.heap.size 25 3 sv (2 * acc.length) (rowOf (cellsOf acc))
  sl : SlS lv l wr
  su : CutsAt uv us wr
  sa : SlS ov R wr
  bel : Below wa.heap.size wa wr
  hi : i ≤ us.length + 1
  done : us.length < i → k = l.length
theorem L3.later {wa w6 : World} {p : Nat} {lv : Value} {l : List Sp} {uv : Value} {us : List Int} {ov : Value} {R : List Sp} {now : Int} {k i : Nat} {b sv : Value} {acc : List Sp} {wr w' : World} (h : L3 wa w6 p lv l uv us ov R now k i b sv acc wr) (hb : Below wr.heap.size wr w') : L3 wa w6 p lv l uv us ov R now k i b sv acc w' :=
  ⟨h.le, h.acc', own_laterS h.own hb, blk_later h.sh hb, own_laterC h.ss hb, h.sl.later hb, h.su.later hb, h.sa.later hb, btP h.bel hb, h.hi, h.done⟩
theorem L3.more {wa w6 : World} {p : Nat} {lv : Value} {l : List Sp} {uv : Value} {us : List Int} {ov : Value} {R : List Sp} {now : Int} {k i m : Nat} {b sv b' sv' : Value} {acc piece : List Sp} {wr w1 w2 : World} (h : L3 wa w6 p lv l uv us ov R now k i b sv acc wr)
    (h0 : OA wa lv l uv us wa) (ha : SlS ov R wa) (hp : wa.heap.size = p) (hp6 : w6.heap.size = p + 1) (hm : k + m ≤ l.length) (hpiece : piece = ((l.drop k).take m).filter (takes now)) (hi : i ≤ us.length) (hdone : us.length < i + 1 → k + m = l.length)
    (own1 : w1.ownsRow w6.heap.size 23 8 b' (acc.length + piece.length) (rowS acc ++ rowS piece)) (gr1 : wr.grownBy w1 b.ownBlock)
    (own2 : w2.ownsRow w6.heap.size 25 3 sv' (2 * acc.length + 2 * piece.length) (rowOf (cellsOf acc) ++ rowOf (cellsOf piece))) (gr2 : w1.grownBy w2 sv.ownBlock) (ssk : w1.ownsRow w6.heap.size 25 3 sv (2 * acc.length) (rowOf (cellsOf acc))) (sh2 : w2.heap[p]? = some (.cells #[sv] 44 (0, 0))) :
    L3 wa w6 p lv l uv us ov R now (k + m) (i + 1) b' sv' (acc ++ piece) (w2.setCell ⟨p, 0, none⟩ sv') := by
  have bel1 := h.bel.grown gr1 h.bel.size (fun j hj => by have := (h.own.lt j hj).1; omega)
  have bel2 := bel1.grown gr2 bel1.size (fun j hj => by have := (ssk.lt j hj).1; omega)
  have bel := bel2.setCell (p := ⟨p, 0, none⟩) (by show wa.heap.size ≤ p; omega) sv'
  have hs := heap_setCell_same w2 p 0 _ _ sv' sh2
  refine ⟨hm, ?_, ?_, ?_, ?_, h0.sl.later bel, h0.su.later bel, ha.later bel, bel, by omega, fun h => by omega⟩
  · rw [h.acc', hpiece, once_next]
  · refine own_set (p := p) ?_ (by omega)
    have := kept_o own1 ssk gr2
    rw [List.length_append, show rowS (acc ++ piece) = rowS acc ++ rowS piece by simp [rowS]]
    exact this
  · rw [hs]
    rfl
  · refine own_set (p := p) ?_ (by omega)
    rw [List.length_append, Nat.mul_add, cellsOf_append, show rowOf (cellsOf acc ++ cellsOf piece) = rowOf (cellsOf acc) ++ rowOf (cellsOf piece) by simp [rowOf]]
    exact own2
theorem take_slice_fits {l : List Sp} {P : Sp → Prop} (h : ∀ x ∈ l, P x) (lo m : Nat) : ∀ x ∈ (l.drop lo).take m, P x := fun x hx => h x (List.mem_of_mem_drop (List.mem_of_mem_take hx))
theorem row_cellsC {b o : Nat} {l : List Ce} {w : World} (h : RowAt b o l w) : ∀ j u, (rowOf l)[j]? = some u → w.cell? ((⟨b, o, none⟩ : Addr).add j) = some u := by
  intro j u hj
  have hlt := (List.getElem?_eq_some_iff.1 hj).1
  rw [rowOf_length] at hlt
  have hi : j / 3 < l.length := by omega
  have hd : j / 3 * 3 + j % 3 = j := by omega
  have := rowOf_at l (j / 3) (j % 3) hi (by omega)
  rw [hd, hj] at this
  have := h.2 (j / 3) hi (j % 3) u this.symm
  rw [show o + j / 3 * 3 + j % 3 = o + j by omega] at this
  rw [Addr.add_lit]
  exact this
theorem own_slice {w : World} {base sz n : Nat} {e : TypeId} {v : Value} {xs : List Value} (h : w.ownsRow base e sz v n xs) : ∃ A cap, v = .slice A n cap := by
  rcases h.2 with ⟨rfl, rfl⟩ | ⟨g, cap, cur, rfl, _⟩
  · exact ⟨none, 0, rfl⟩
  · exact ⟨_, cap, rfl⟩
theorem maxI (n : Nat) : max ((n : Int) - 2) 0 = ((n - 2 : Nat) : Int) := by omega
set_option maxHeartbeats 16000000 in
theorem rowsOnce_law (W : World) (lv : Value) (l : List Sp) (uv : Value) (us : List Int) (now : Int) (hsl : SlS lv l W) (hnl : lv = .slice none 0 0 ∨ ∃ ad n c, lv = .slice (some ad) n c) (hfl : ∀ x ∈ l, WfX x) (hsu : CutsAt uv us W) (hnu : uv = .slice none 0 0 ∨ ∃ ad n c, uv = .slice (some ad) n c) (hfu : ∀ u ∈ us, U8 u) (hn : I64 now) :
    Calls Try.prog 4 #[lv, uv, .int .i64 now] W fun e w' => e = .returned (.bool true) ∧ Below W.heap.size W w' := by
  have CDO := Lib.hid lives_true
  have M := Lib.hid (OA.mk hsl hsu (Below.refl _ _) : OA W lv l uv us W)
  have cb2 := fun w' h => beyondS_any lv l 20 w' h (fun x hx => (hfl x hx).1) (by omega)
  have HSL := Lib.hid hsl
  have M00 := M
  obtain ⟨A0, c0, rfl, l1, l2, -⟩ := id hsl
  obtain ⟨B0, d0, rfl, u1, u2, -⟩ := id hsu
  obtain ⟨n, hnn⟩ : ∃ n, l.length = n := ⟨_, rfl⟩
  obtain ⟨un, hun⟩ : ∃ un, us.length = un := ⟨_, rfl⟩
  have HN := Lib.hid hnn
  have HU := Lib.hid hun
  rw [hnn] at M M00 HSL l1 cb2 ⊢
  rw [hun] at M M00 u1 ⊢
  clear hnl hnu hnn hun hsl hsu
  unfold maxLen at l2 u2
  cases hfar : farS l 20 with
  | true =>
    rw [hfar] at cb2
    have CB2 := Lib.hid cb2
    clear cb2 hfar hfl hfu hn
    go_enter Try.func4, Try.ntmps4
    go_wp2_with fail
    refine (CB2.out _ HSL.out).mono ?_
    rintro e w1 ⟨rfl, b1⟩
    go_wp2_with fail
    refine (CDO.out _).mono ?_
    rintro e w2 ⟨rfl, b2⟩
    go_wp2_with fail
    go_ret
    exact ⟨rfl, btP b1 b2⟩
  | false =>
    rw [hfar] at cb2
    have CB2 := Lib.hid cb2
    by_cases hu20 : 20 < un
    · clear cb2 hfar hfl hfu hn
      go_enter Try.func4, Try.ntmps4
      go_wp2_with fail
      refine (CB2.out _ HSL.out).mono ?_
      rintro e w1 ⟨rfl, b1⟩
      go_wp2_with fail
      refine (CDO.out _).mono ?_
      rintro e w2 ⟨rfl, b2⟩
      go_wp2_with fail
      go_ret
      exact ⟨rfl, btP b1 b2⟩
    · have hln : n ≤ 20 := by rw [← HN.out]; exact near_len hfar
      have HFL := Lib.hid (fun x (hx : x ∈ l) => (near_fits hfar hx).1)
      have HST := Lib.hid (fun x (hx : x ∈ l) => (hfl x hx).2)
      have HFU := Lib.hid hfu
      have HNW := Lib.hid hn
      clear cb2 hfar hfl hfu hn
      go_enter Try.func4, Try.ntmps4
      go_wp2_with fail
      refine (CB2.out _ HSL.out).mono ?_
      rintro e w1 ⟨rfl, b1⟩
      have M := Lib.hid (M.out.later b1)
      clear b1 HSL CB2
      go_wp2_with fail
      go_loopw [7] (fun i wr => ∃ (k : Nat), i = .int .i64 k ∧ k ≤ n ∧ Hid ((l.take k).Pairwise fun x y => sameIds x y = false) ∧ Hid (OA W (.slice A0 n c0) l (.slice B0 un d0) us wr)) (fun i _ => n - (intOf i).toNat)
      case atStart => exact ⟨0, rfl, by omega, Lib.hid (by simp), M⟩
      case round =>
        obtain ⟨k, rfl, hkn, HPW, M⟩ := hrel
        by_cases hlt : k < n
        · have hkl : k < l.length := by rw [HN.out]; exact hlt
          have HKL := Lib.hid hkl
          have HPM := Lib.hid (fun h => pair_more hkl HPW.out h)
          clear hkl HPW
          go_wp2_with fail
          go_loopw [8] (fun j wr => ∃ (jn : Nat), j = .int .i64 jn ∧ jn ≤ k ∧ Hid (∀ i, i < jn → sameIds (l.getD i Sp.zero) (l.getD k Sp.zero) = false) ∧ Hid (OA W (.slice A0 n c0) l (.slice B0 un d0) us wr)) (fun j _ => k - (intOf j).toNat)
          case atStart => exact ⟨0, rfl, by omega, Lib.hid (fun i hi => by omega), M⟩
          case round =>
            obtain ⟨jn, rfl, hjk, HPJ, M⟩ := hrel
            by_cases hjt : jn < k
            · have hjl : jn < l.length := by rw [HN.out]; omega
              obtain ⟨b2, o2, rfl, hrow⟩ := sl_at M.out.sl (by omega)
              obtain ⟨y0, y1, y2, y3, y4, y5, y6, y7⟩ := hrow.cells hjl
              obtain ⟨x0, x1, x2, x3, x4, x5, x6, x7⟩ := hrow.cells HKL.out
              have hb1 := hrow.1
              have HPN : Hid (sameIds (l.getD jn Sp.zero) (l.getD k Sp.zero) = false → ∀ i, i < jn + 1 → sameIds (l.getD i Sp.zero) (l.getD k Sp.zero) = false) := Lib.hid (by
                intro h i hi
                by_cases hij : i < jn
                · exact HPJ.out i hij
                · obtain rfl : i = jn := by omega
                  exact h)
              clear hrow hjl HPJ y2 y3 y4 y5 y6 y7 x2 x3 x4 x5 x6 x7
              obtain ⟨x, hx⟩ : ∃ x, l.getD k Sp.zero = x := ⟨_, rfl⟩
              obtain ⟨y, hy⟩ : ∃ y, l.getD jn Sp.zero = y := ⟨_, rfl⟩
              rw [hx] at x0 x1 HPN
              rw [hy] at y0 y1 HPN
              have HX := Lib.hid hx
              clear hx hy
              go_upto_region 9 with fail
              by_cases g1 : y.tr = x.tr
              · have e1 : (y.tr == x.tr) = true := beq_iff_eq.2 g1
                by_cases g2 : y.id = x.id
                · have e2 : (y.id == x.id) = true := beq_iff_eq.2 g2
                  clear g1 g2
                  refine wp_region_more (by kernel_rfl) (by kernel_rfl) ?_
                  repeat (go_big_quiet_step (fail))
                  refine wpQuiet_nil ?_
                  rintro _ ⟨ex, rfl⟩
                  have BB := World.below_more wr ex
                  have M := Lib.hid (M.out.later BB)
                  clear BB x0 x1 y0 y1 e1 e2 hb1
                  go_wp2_with fail
                  refine (CDO.out _).mono ?_
                  rintro e w2 ⟨rfl, b2⟩
                  go_wp2_with fail
                  go_ret
                  exact ⟨rfl, btP M.out.bel b2⟩
                · have e2 : (y.id == x.id) = false := beq_eq_false_iff_ne.2 g2
                  have HP := Lib.hid (HPN.out (by unfold sameIds; rw [decide_eq_false g2]; simp))
                  clear g1 g2 HPN
                  refine wp_region_more (by kernel_rfl) (by kernel_rfl) ?_
                  repeat (go_big_quiet_step (fail))
                  refine wpQuiet_nil ?_
                  rintro _ ⟨ex, rfl⟩
                  have BB := World.below_more wr ex
                  have M := Lib.hid (M.out.later BB)
                  clear BB x0 x1 y0 y1 e1 e2 hb1
                  go_wp2_with fail
                  go_roundw
                  case rel => exact ⟨jn + 1, by go_num, by omega, Lib.hid (by rw [HX.out]; exact HP.out), M⟩
                  case measure => simp [intOf]; omega
              · have e1 : (y.tr == x.tr) = false := beq_eq_false_iff_ne.2 g1
                have HP := Lib.hid (HPN.out (by unfold sameIds; rw [decide_eq_false g1]; simp))
                clear g1 HPN
                refine wp_region_more (by kernel_rfl) (by kernel_rfl) ?_
                repeat (go_big_quiet_step (fail))
                refine wpQuiet_nil ?_
                rintro _ ⟨ex, rfl⟩
                have BB := World.below_more wr ex
                have M := Lib.hid (M.out.later BB)
                clear BB x0 x1 y0 y1 e1 hb1
                go_wp2_with fail
                go_roundw
                case rel => exact ⟨jn + 1, by go_num, by omega, Lib.hid (by rw [HX.out]; exact HP.out), M⟩
                case measure => simp [intOf]; omega
            · obtain rfl : jn = k := by omega
              have HP := Lib.hid (HPM.out HPJ.out)
              clear HPJ HPM
              go_wp2_with fail
              go_roundw
              case rel => exact ⟨jn + 1, by go_num, by omega, HP, M⟩
              case measure => simp [intOf]; omega
        · obtain rfl : k = n := by omega
          have hpw := HPW.out
          rw [List.take_of_length_le (by rw [HN.out]; exact Nat.le_refl _)] at hpw
          clear HPW
          -- what the calls tell
          have ct : ∀ (S : List Ce) (p : Nat) (v : Value) (q : List Sp) (W : World), S.length ≤ 100 → ShAt p S W → SlS v q W → (∀ x ∈ q, Fits x) → (∀ x ∈ q, I64 x.st) → q.length ≤ 20 → Calls Try.prog 19 #[.func (.func 20) #[.pointer (some ⟨p, 0, none⟩)] #[], v, .int .i64 now] W (TakeEx S q now W) :=
            fun S p v q W hS h hs hf hst hq => take_spans_any p S v q now W h (by omega) hs hf hst HNW.out (by omega)
          have CT := Lib.hid ct
          have hf1 := once_first (now := now) hpw
          have hf2 := once_again (now := now) hpw
          have hf3 := fun lo a m (h : lo ≤ a) => once_step (now := now) hpw (lo := lo) (a := a) (k := m) h
          obtain ⟨R, hR⟩ : ∃ R, l.filter (takes now) = R := ⟨_, rfl⟩
          have hRk : ∀ x ∈ R, x.ok = true := by rw [← hR]; exact takes_ok
          have hRl : R.length ≤ k := by rw [← hR, ← HN.out]; exact List.length_filter_le _ _
          have HR := Lib.hid hR
          rw [hR] at hf1 hf2
          have HF1 := Lib.hid hf1
          have HF2 := Lib.hid hf2
          have HF3 := Lib.hid hf3
          have cs := fun s t W (h : SlS s R W) (k : SlS t R W) => sameSpans_any s t R R W h k
          rw [decide_eq_true rfl] at cs
          have CS := Lib.hid cs
          have HRK := Lib.hid hRk
          have hll : l.length ≤ 20 := by rw [HN.out]; exact hln
          have HLL := Lib.hid hll
          clear ct hf1 hf2 hf3 hR cs hRk hpw hll
          obtain ⟨i0, hi, hz0, hz1, hz2⟩ := info_parts info_sp
          obtain ⟨j0, gi, gz0, gz1, gz2⟩ := info_parts info_ce
          have hWb := M.out.bel.size
          have bs := box_latS (w := wr) (.cells #[.slice none 0 0] 44)
          have hsh := heap_alloc_new wr (.cells #[.slice none 0 0] 44)
          have SH := Lib.hid (shelf_new (.slice none 0 0) [] wr (sl_nil wr) (by simp))
          have M := Lib.hid (M.out.later bs)
          clear bs
          go_upto_region 12 with fail
          obtain ⟨w2, hw2⟩ : ∃ w2, wr.alloc (.cells #[.slice none 0 0] 44) = w2 := ⟨_, rfl⟩
          have hsz2 : w2.heap.size = wr.heap.size + 1 := by rw [← hw2]; simp
          rw [hw2] at SH M hsh ⊢
          clear hw2
          obtain ⟨p, hp⟩ : ∃ p, wr.heap.size = p := ⟨_, rfl⟩
          rw [hp] at SH hsh hsz2 hWb ⊢
          clear hp
          go_wp2_with fail
          refine (CT.out _ _ _ _ _ (by simp) SH.out M.out.sl HFL.out HST.out HLL.out).mono ?_
          rintro e w3 ⟨b3, ov, cv, rfl, own1, own2⟩
          rw [HF1.out] at own1 own2
          have M := Lib.hid (M.out.later b3)
          have hsh := blk_later hsh b3
          have hs3 := b3.size
          clear SH b3
          obtain ⟨cA, cc, rfl, -, -, hcr⟩ := slAt_own (l := cellsOf R) (by rw [cellsOf_length]; exact own2)
          have hcl := cellsOf_length R
          rw [hcl] at hcr own2 ⊢
          have v0 := cell_of_one hsh
          have f0 := free_of_one hsh
          have hpl : p < w3.heap.size := by omega
          have O1 := Lib.hid own1
          have hsrc : Hid (0 < 2 * R.length → ∃ ad, cA = some ad ∧ ∀ j u, (rowOf (cellsOf R))[j]? = some u → w3.cell? (ad.add j) = some u) := Lib.hid (fun hp => by
            obtain ⟨b, o, h1, h2⟩ := hcr hp
            exact ⟨_, h1, row_cellsC h2⟩)
          have HSR := hsrc
          have HRL := Lib.hid (by rw [rowOf_length, cellsOf_length] : (rowOf (cellsOf R)).length = 2 * R.length * 3)
          clear hcr hcl own1 own2 hsrc
          go_wp2_with (at_builtin; refine wpList_append_every _ rfl _ _ 29 rfl w3.heap.size 25 j0 (.agg #[.string ⟨#[]⟩, .int .i64 0, .string ⟨#[]⟩]) 3 40 Try.underlying29 gi gz0 gz1 gz2 rfl (by decide) _ 0 [] rfl (World.ownsRow_nil _ _ _ _) _ (2 * R.length) _ (rowOf (cellsOf R)) rfl HRL.out HSR.out (rowOf_one _) (by unfold maxLen; omega) (by omega) (Nat.le_refl _) ?_)
          intro v4 w4 own4 gr4
          obtain ⟨vA, vq, rfl⟩ := own_cells (cellsOf_length R) own4
          have b4 := (Below.refl w3.heap.size w3).grown gr4 (Nat.le_refl _) (fun j hj => by cases hj)
          have hsh4 := blk_later hsh b4
          have O4 := Lib.hid own4
          have O1 := Lib.hid (own_laterS O1.out b4)
          have M := Lib.hid (M.out.later b4)
          have hpl : p < w4.heap.size := Nat.lt_of_lt_of_le hpl b4.size
          have v0 := cell_of_one hsh4
          have f0 := free_of_one hsh4
          clear own4 gr4 hsh HSR HRL b4
          go_upto_region 14 with fail
          have hset := heap_setCell_same w4 p 0 _ _ (.slice vA (2 * R.length) vq) hsh4
          have M5 := Lib.hid (M00.out.later (M.out.bel.setCell (p := ⟨p, 0, none⟩) hWb (.slice vA (2 * R.length) vq)))
          have O5 := Lib.hid (own_set (p := p) (u := (.slice vA (2 * R.length) vq)) O1.out (by omega))
          have O6 := Lib.hid (own_set (p := p) (u := (.slice vA (2 * R.length) vq)) O4.out (by omega))
          have SH5 := Lib.hid (ShAt.mk ⟨_, hset, slAt_own (l := cellsOf R) (by rw [cellsOf_length]; exact O6.out)⟩ (fits_cellsOf HRK.out) : ShAt p (cellsOf R) (w4.setCell ⟨p, 0, none⟩ (.slice vA (2 * R.length) vq)))
          obtain ⟨w5, hw5⟩ : ∃ w5, w4.setCell ⟨p, 0, none⟩ (.slice vA (2 * R.length) vq) = w5 := ⟨_, rfl⟩
          rw [hw5] at M5 O5 SH5 ⊢
          clear hset O6 hw5 v0 f0 hsh4 O1 O4 M
          go_wp2_with fail
          refine (CT.out _ _ _ _ _ (by rw [cellsOf_length]; omega) SH5.out M5.out.sl HFL.out HST.out HLL.out).mono ?_
          rintro e w6 ⟨b6, ov2, cv2, rfl, own3, own4⟩
          rw [HF2.out] at own3 own4
          obtain ⟨A3, q3, rfl⟩ := own_none own3
          obtain ⟨A4, q4, rfl⟩ := own_cells (n := 0) (l := []) rfl own4
          have SA := Lib.hid (slS_own (own_laterS O5.out b6))
          have M := Lib.hid (M5.out.later b6)
          have HB6 := Lib.hid M.out.bel
          clear own3 own4 b6 M5 O5 SH5
          have bs := box_latS (w := w6) (.cells #[.slice none 0 0] 44)
          have hsh := heap_alloc_new w6 (.cells #[.slice none 0 0] 44)
          have SA0 := SA
          have Mq := Lib.hid (OA.mk M.out.sl M.out.su (Below.refl _ _) : OA w6 (.slice A0 k c0) l (.slice B0 un d0) us w6)
          have M := Lib.hid (M.out.later bs)
          have SA := Lib.hid (SA.out.later bs)
          go_upto_region 18 with fail
          obtain ⟨wt, hwt⟩ : ∃ wt, w6.alloc (.cells #[.slice none 0 0] 44) = wt := ⟨_, rfl⟩
          have hszt : wt.heap.size = w6.heap.size + 1 := by rw [← hwt]; simp
          rw [hwt] at M SA hsh bs ⊢
          clear hwt
          obtain ⟨pt, hpt⟩ : ∃ pt, w6.heap.size = pt := ⟨_, rfl⟩
          rw [hpt] at hsh hszt ⊢
          have HPT := Lib.hid hpt
          have ML := Lib.hid (L3.mk (Nat.zero_le _) (by simp) (World.ownsRow_nil _ _ _ _) hsh (World.ownsRow_nil _ _ _ _) M.out.sl M.out.su SA.out bs (by omega) (fun h => by omega) : L3 w6 wt pt (.slice A0 k c0) l (.slice B0 un d0) us ov R now 0 0 (.slice none 0 0) (.slice none 0 0) [] wt)
          clear bs hsh hpt M SA
          go_wp2_with fail
          go_loopw [15, 16, 17] (fun b a i wr => ∃ (at' im : Nat) (sv : Value) (acc : List Sp), a = .int .i64 at' ∧ i = .int .i64 im ∧ Hid (L3 w6 wt pt (.slice A0 k c0) l (.slice B0 un d0) us ov R now at' im b sv acc wr)) (fun _ _ i _ => un + 2 - (intOf i).toNat)
          case atStart => exact ⟨0, 0, _, [], rfl, rfl, ML⟩
          case round =>
            obtain ⟨at', im, sv, acc, rfl, rfl, M⟩ := hrel
            have hak : at' ≤ k := by have := M.out.le; rw [HN.out] at this; exact this
            by_cases hlt : at' < k
            · have him : im ≤ un := by
                have h1 := M.out.done
                rw [HU.out, HN.out] at h1
                by_cases h : im ≤ un
                · exact h
                · have := h1 (by omega)
                  omega
              by_cases hiu : im < un
              · have hmu : us.getD im 0 ∈ us := by simp [List.getD, show im < us.length by rw [HU.out]; exact hiu]
                obtain ⟨b3, o3, rfl, hb3, hc3⟩ := cuts_at M.out.su (by rw [HU.out]; omega)
                have c3 := hc3 im (by rw [HU.out]; exact hiu)
                obtain ⟨g1, g2⟩ := HFU.out _ hmu
                clear hc3 hmu
                obtain ⟨u, hu⟩ : ∃ u, us.getD im 0 = u := ⟨_, rfl⟩
                rw [hu] at c3 g1 g2
                clear hu
                go_upto_region 26 with fail
                obtain ⟨m, hm0⟩ : ∃ m : Nat, min ((k : Int) - at') (u % 6) = m := ⟨_, (Int.toNat_of_nonneg (by omega)).symm⟩
                have hm : at' + m ≤ k := by omega
                have hmd : un < im + 1 → at' + m = k := fun h => by omega
                rw [hm0]
                clear hm0 c3 g1 g2 hb3
                have hmx : (max ((at' : Int) - 2) 0).toNat = at' - 2 := by omega
                have hfm : un < im + 1 → at' + m = k := hmd
                obtain ⟨b2, o2, rfl, hrow⟩ := sl_at M.out.sl (by rw [HN.out]; omega)
                have hsl := M.out.sl
                rw [← HN.out] at hsl
                have hcut := SlS.cut (lo := at' - 2) (hi := at' + m) hsl (by omega) (by rw [HN.out]; omega)
                have SPC := Lib.hid hcut
                obtain ⟨sA, sq, rfl⟩ := own_slice M.out.ss
                have hacl : acc.length ≤ 20 := by
                  rw [M.out.acc']
                  refine Nat.le_trans (List.length_filter_le _ _) ?_
                  rw [List.length_take]
                  omega
                have SHQ := Lib.hid (ShAt.mk ⟨_, M.out.sh, slAt_own (l := cellsOf acc) (by rw [cellsOf_length]; exact M.out.ss)⟩ (fits_cellsOf (by rw [M.out.acc']; exact takes_ok)) : ShAt pt (cellsOf acc) wr)
                have hT := HF3.out (at' - 2) at' m (by omega)
                rw [← M.out.acc'] at hT
                obtain ⟨P, hP⟩ : ∃ P, ((l.drop at').take m).filter (takes now) = P := ⟨_, rfl⟩
                rw [hP] at hT
                have hPl : P.length ≤ 20 := by
                  rw [← hP]
                  refine Nat.le_trans (List.length_filter_le _ _) ?_
                  rw [List.length_take]
                  omega
                have HT := Lib.hid hT
                have HP := Lib.hid hP
                clear hrow hsl hcut hT hP
                go_wp2_with fail
                refine (CT.out _ _ _ _ _ (by rw [cellsOf_length]; omega) SHQ.out SPC.out (take_slice_fits HFL.out _ _) (take_slice_fits HST.out _ _) (by rw [List.length_take]; omega)).mono ?_
                rintro e w7 ⟨b7, xv, yv, rfl, ownx, owny⟩
                rw [HT.out] at ownx owny
                have M7 := Lib.hid (M.out.later b7)
                clear b7 SHQ SPC hmx
                obtain ⟨xA, xq, rfl⟩ := own_slice ownx
                obtain ⟨yA, yq, rfl⟩ := own_slice owny
                have HSX : Hid (0 < P.length → ∃ ad, xA = some ad ∧ ∀ j u, (rowS P)[j]? = some u → w7.cell? (ad.add j) = some u) := Lib.hid (fun hp => by
                  have hx := slS_own ownx
                  obtain ⟨b, o, rfl, _⟩ := sl_at hx hp
                  exact ⟨_, rfl, sl_cells hx⟩)
                have OY := Lib.hid owny
                have own := M7.out.own
                have hsh7 := M7.out.sh
                have hpl7 : pt < w7.heap.size := (Array.getElem?_eq_some_iff.1 hsh7).1
                have hne : some pt ≠ u15.ownBlock := fun e => by have := (own.lt pt e.symm).1; omega
                have HLX := Lib.hid (rowS_length P)
                clear ownx owny hsh7
                go_wp2_with (at_builtin; refine wpList_append_every _ rfl _ _ 27 rfl wt.heap.size 23 i0 (.agg #[.int .i64 0, .int .i64 0, .int .i64 0, .string ⟨#[]⟩, .string ⟨#[]⟩, .int .i64 0, .int .i64 0, .string ⟨#[]⟩]) 8 88 Try.underlying27 hi hz0 hz1 hz2 rfl (by decide) _ acc.length (rowS acc) rfl own _ P.length _ (rowS P) rfl HLX.out HSX.out (rowS_one _) (by unfold maxLen; omega) (by omega) (by omega) ?_)
                intro b' w8 own8 gr8
                rw [← hszt] at own8
                obtain ⟨bA, bq, rfl⟩ := own_slice own8
                have hsh8 := (gr8.block pt hpl7 hne).trans M7.out.sh
                have hpl8 : pt < w8.heap.size := (Array.getElem?_eq_some_iff.1 hsh8).1
                have v0 := cell_of_one hsh8
                have f0 := free_of_one hsh8
                have ss8 := kept_c own M7.out.ss gr8
                have oy8 := kept_c own OY.out gr8
                have HSY : Hid (0 < 2 * P.length → ∃ ad, yA = some ad ∧ ∀ j u, (rowOf (cellsOf P))[j]? = some u → w8.cell? (ad.add j) = some u) := Lib.hid (fun hp => by
                  have hy := slAt_own (l := cellsOf P) (by rw [cellsOf_length]; exact oy8)
                  obtain ⟨b, o, rfl, hr⟩ := slc_at hy (by rw [cellsOf_length]; exact hp)
                  exact ⟨_, rfl, row_cellsC hr⟩)
                have HLY := Lib.hid (by rw [rowOf_length, cellsOf_length] : (rowOf (cellsOf P)).length = 2 * P.length * 3)
                have HSH8 := Lib.hid hsh8
                have G8 := Lib.hid gr8
                have O8 := Lib.hid own8
                have hne2 : some pt ≠ (Value.slice sA (2 * acc.length) sq).ownBlock := fun e => by have := (ss8.lt pt e.symm).1; omega
                have HNE := Lib.hid hne2
                clear hne2 own own8 gr8 oy8 hsh8 hne HSX HLX
                go_wp2_with (at_builtin; refine wpList_append_every _ rfl _ _ 29 rfl wt.heap.size 25 j0 (.agg #[.string ⟨#[]⟩, .int .i64 0, .string ⟨#[]⟩]) 3 40 Try.underlying29 gi gz0 gz1 gz2 rfl (by decide) _ (2 * acc.length) (rowOf (cellsOf acc)) rfl ss8 _ (2 * P.length) _ (rowOf (cellsOf P)) rfl HLY.out HSY.out (rowOf_one _) (by unfold maxLen; omega) (by omega) (by omega) ?_)
                intro sv' w9 own9 gr9
                rw [← hszt] at own9
                obtain ⟨cA', cq', rfl⟩ := own_slice own9
                have hsh9 := (gr9.block pt hpl8 HNE.out).trans HSH8.out
                have v1 := cell_of_one hsh9
                have f1 := free_of_one hsh9
                have hpl9 : pt < w9.heap.size := (Array.getElem?_eq_some_iff.1 hsh9).1
                have MM := Lib.hid (L3.more (m := m) (piece := P) M7.out Mq.out SA0.out HPT.out hszt (by rw [HN.out]; exact hm) HP.out.symm (by rw [HU.out]; exact him) (by rw [HU.out, HN.out]; exact hfm) O8.out G8.out own9 gr9 ss8 hsh9)
                clear own9 gr9 ss8 hsh9 v0 f0 O8 G8 HSY HLY HSH8 HNE OY M7 M
                go_wp2_with fail
                go_roundw
                case rel => exact ⟨at' + m, im + 1, _, acc ++ P, by go_num, by go_num, MM⟩
                case measure => simp [intOf]; omega
              · go_upto_region 26 with fail
                obtain ⟨m, hm0⟩ : ∃ m : Nat, (k : Int) - at' = m := ⟨_, (Int.toNat_of_nonneg (by omega)).symm⟩
                have hm : at' + m ≤ k := by omega
                have hmd : un < im + 1 → at' + m = k := fun h => by omega
                rw [hm0]
                clear hm0
                have hmx : (max ((at' : Int) - 2) 0).toNat = at' - 2 := by omega
                have hfm : un < im + 1 → at' + m = k := hmd
                obtain ⟨b2, o2, rfl, hrow⟩ := sl_at M.out.sl (by rw [HN.out]; omega)
                have hsl := M.out.sl
                rw [← HN.out] at hsl
                have hcut := SlS.cut (lo := at' - 2) (hi := at' + m) hsl (by omega) (by rw [HN.out]; omega)
                have SPC := Lib.hid hcut
                obtain ⟨sA, sq, rfl⟩ := own_slice M.out.ss
                have hacl : acc.length ≤ 20 := by
                  rw [M.out.acc']
                  refine Nat.le_trans (List.length_filter_le _ _) ?_
                  rw [List.length_take]
                  omega
                have SHQ := Lib.hid (ShAt.mk ⟨_, M.out.sh, slAt_own (l := cellsOf acc) (by rw [cellsOf_length]; exact M.out.ss)⟩ (fits_cellsOf (by rw [M.out.acc']; exact takes_ok)) : ShAt pt (cellsOf acc) wr)
                have hT := HF3.out (at' - 2) at' m (by omega)
                rw [← M.out.acc'] at hT
                obtain ⟨P, hP⟩ : ∃ P, ((l.drop at').take m).filter (takes now) = P := ⟨_, rfl⟩
                rw [hP] at hT
                have hPl : P.length ≤ 20 := by
                  rw [← hP]
                  refine Nat.le_trans (List.length_filter_le _ _) ?_
                  rw [List.length_take]
                  omega
                have HT := Lib.hid hT
                have HP := Lib.hid hP
                clear hrow hsl hcut hT hP
                go_wp2_with fail
                refine (CT.out _ _ _ _ _ (by rw [cellsOf_length]; omega) SHQ.out SPC.out (take_slice_fits HFL.out _ _) (take_slice_fits HST.out _ _) (by rw [List.length_take]; omega)).mono ?_
                rintro e w7 ⟨b7, xv, yv, rfl, ownx, owny⟩
                rw [HT.out] at ownx owny
                have M7 := Lib.hid (M.out.later b7)
                clear b7 SHQ SPC hmx
                obtain ⟨xA, xq, rfl⟩ := own_slice ownx
                obtain ⟨yA, yq, rfl⟩ := own_slice owny
                have HSX : Hid (0 < P.length → ∃ ad, xA = some ad ∧ ∀ j u, (rowS P)[j]? = some u → w7.cell? (ad.add j) = some u) := Lib.hid (fun hp => by
                  have hx := slS_own ownx
                  obtain ⟨b, o, rfl, _⟩ := sl_at hx hp
                  exact ⟨_, rfl, sl_cells hx⟩)
                have OY := Lib.hid owny
                have own := M7.out.own
                have hsh7 := M7.out.sh
                have hpl7 : pt < w7.heap.size := (Array.getElem?_eq_some_iff.1 hsh7).1
                have hne : some pt ≠ u15.ownBlock := fun e => by have := (own.lt pt e.symm).1; omega
                have HLX := Lib.hid (rowS_length P)
                clear ownx owny hsh7
                go_wp2_with (at_builtin; refine wpList_append_every _ rfl _ _ 27 rfl wt.heap.size 23 i0 (.agg #[.int .i64 0, .int .i64 0, .int .i64 0, .string ⟨#[]⟩, .string ⟨#[]⟩, .int .i64 0, .int .i64 0, .string ⟨#[]⟩]) 8 88 Try.underlying27 hi hz0 hz1 hz2 rfl (by decide) _ acc.length (rowS acc) rfl own _ P.length _ (rowS P) rfl HLX.out HSX.out (rowS_one _) (by unfold maxLen; omega) (by omega) (by omega) ?_)
                intro b' w8 own8 gr8
                rw [← hszt] at own8
                obtain ⟨bA, bq, rfl⟩ := own_slice own8
                have hsh8 := (gr8.block pt hpl7 hne).trans M7.out.sh
                have hpl8 : pt < w8.heap.size := (Array.getElem?_eq_some_iff.1 hsh8).1
                have v0 := cell_of_one hsh8
                have f0 := free_of_one hsh8
                have ss8 := kept_c own M7.out.ss gr8
                have oy8 := kept_c own OY.out gr8
                have HSY : Hid (0 < 2 * P.length → ∃ ad, yA = some ad ∧ ∀ j u, (rowOf (cellsOf P))[j]? = some u → w8.cell? (ad.add j) = some u) := Lib.hid (fun hp => by
                  have hy := slAt_own (l := cellsOf P) (by rw [cellsOf_length]; exact oy8)
                  obtain ⟨b, o, rfl, hr⟩ := slc_at hy (by rw [cellsOf_length]; exact hp)
                  exact ⟨_, rfl, row_cellsC hr⟩)
                have HLY := Lib.hid (by rw [rowOf_length, cellsOf_length] : (rowOf (cellsOf P)).length = 2 * P.length * 3)
                have HSH8 := Lib.hid hsh8
                have G8 := Lib.hid gr8
                have O8 := Lib.hid own8
                have hne2 : some pt ≠ (Value.slice sA (2 * acc.length) sq).ownBlock := fun e => by have := (ss8.lt pt e.symm).1; omega
                have HNE := Lib.hid hne2
                clear hne2 own own8 gr8 oy8 hsh8 hne HSX HLX
                go_wp2_with (at_builtin; refine wpList_append_every _ rfl _ _ 29 rfl wt.heap.size 25 j0 (.agg #[.string ⟨#[]⟩, .int .i64 0, .string ⟨#[]⟩]) 3 40 Try.underlying29 gi gz0 gz1 gz2 rfl (by decide) _ (2 * acc.length) (rowOf (cellsOf acc)) rfl ss8 _ (2 * P.length) _ (rowOf (cellsOf P)) rfl HLY.out HSY.out (rowOf_one _) (by unfold maxLen; omega) (by omega) (by omega) ?_)
                intro sv' w9 own9 gr9
                rw [← hszt] at own9
                obtain ⟨cA', cq', rfl⟩ := own_slice own9
                have hsh9 := (gr9.block pt hpl8 HNE.out).trans HSH8.out
                have v1 := cell_of_one hsh9
                have f1 := free_of_one hsh9
                have hpl9 : pt < w9.heap.size := (Array.getElem?_eq_some_iff.1 hsh9).1
                have MM := Lib.hid (L3.more (m := m) (piece := P) M7.out Mq.out SA0.out HPT.out hszt (by rw [HN.out]; exact hm) HP.out.symm (by rw [HU.out]; exact him) (by rw [HU.out, HN.out]; exact hfm) O8.out G8.out own9 gr9 ss8 hsh9)
                clear own9 gr9 ss8 hsh9 v0 f0 O8 G8 HSY HLY HSH8 HNE OY M7 M
                go_wp2_with fail
                go_roundw
                case rel => exact ⟨at' + m, im + 1, _, acc ++ P, by go_num, by go_num, MM⟩
                case measure => simp [intOf]; omega
            · obtain rfl : at' = k := by omega
              have hacc : acc = R := by
                rw [M.out.acc', List.take_of_length_le (by rw [HN.out]; exact Nat.le_refl _), HR.out]
              have own := M.out.own
              rw [hacc] at own
              have SB := Lib.hid (slS_own own)
              have SA := Lib.hid M.out.sa
              have B := Lib.hid M.out.bel
              clear own hacc M
              go_wp2_with fail
              refine (CS.out _ _ _ SA.out SB.out).mono ?_
              rintro e w8 ⟨rfl, b8⟩
              have B := Lib.hid (btP B.out b8)
              clear b8
              go_wp2_with fail
              refine (CDO.out _).mono ?_
              rintro e w9 ⟨rfl, b9⟩
              go_wp2_with fail
              go_ret
              exact ⟨rfl, HB6.out.trans ((btP B.out b9).mono HB6.out.size)⟩

end Go.Proofs.Ytfkjdjdgcegniaa
