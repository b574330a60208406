/- The walk of shelved: the cells of those spans that may be. -/
import Derived.Test.YtfkjdjdgcegniaaRowsJ
import Derived.Deep.AppendLies
namespace Go.Proofs.Ytfkjdjdgcegniaa
set_option maxRecDepth 16000
open Go.RowKit Spoor
set_option linter.unusedVariables false

theorem filter_snoc (l : List Sp) (k : Nat) (h : k < l.length) : (l.take (k + 1)).filter Sp.ok = (l.take k).filter Sp.ok ++ (if (l.getD k Sp.zero).ok = true then [l.getD k Sp.zero] else []) := by
  rw [take_sp l k h, List.filter_append]
  congr 1
  generalize l.getD k Sp.zero = x
  cases e : x.ok <;> simp [e]
/-- a shelf whose cells the call owns -/
structure SvAt (w : World) (p : Nat) (lv : Value) (l : List Sp) (k : Nat) (v : Value) (acc : List Sp) (wr : World) : Prop where
  le : k ≤ l.length
  acc' : acc = (l.take k).filter Sp.ok
  len : acc.length ≤ k
  sh : wr.heap[p]? = some (.cells #[v] 44 (0, 0))
  own : wr.ownsRow w.heap.size 25 3 v (2 * acc.length) (rowOf (cellsOf acc))
  sl : SlS lv l wr
  bel : Below w.heap.size w wr
theorem SvAt.later {w : World} {p : Nat} {lv : Value} {l : List Sp} {k : Nat} {v : Value} {acc : List Sp} {wr w' : World} (h : SvAt w p lv l k v acc wr) (hb : Below wr.heap.size wr w') : SvAt w p lv l k v acc w' :=
  ⟨h.le, h.acc', h.len, blk_later h.sh hb, own_laterC h.own hb, h.sl.later hb, btP h.bel hb⟩
theorem SvAt.skip {w : World} {p : Nat} {lv : Value} {l : List Sp} {k : Nat} {v : Value} {acc : List Sp} {wr : World} (h : SvAt w p lv l k v acc wr) (hk : k < l.length) (hx : (l.getD k Sp.zero).ok = false) : SvAt w p lv l (k + 1) v acc wr := by
  refine ⟨by omega, ?_, by have := h.len; omega, h.sh, h.own, h.sl, h.bel⟩
  rw [filter_snoc l k hk, ← h.acc', hx]
  simp
theorem SvAt.more {w : World} {p : Nat} {lv : Value} {l : List Sp} {k : Nat} {v v' : Value} {acc : List Sp} {wr w' : World} {x : Sp} (h : SvAt w p lv l k v acc wr) (hk : k < l.length) (hx : l.getD k Sp.zero = x) (ho : x.ok = true) (hp : w.heap.size ≤ p) (hsl : SlS lv l w)
    (own : w'.ownsRow w.heap.size 25 3 v' (2 * acc.length + 2) (rowOf (cellsOf acc) ++ rowOf [cellA x, cellI x])) (gr : wr.grownBy w' v.ownBlock) : SvAt w p lv l (k + 1) v' (acc ++ [x]) (w'.setCell ⟨p, 0, none⟩ v') := by
  have bel := h.bel.grown gr h.bel.size (fun j hj => (h.own.lt j hj).1)
  have bs := bel.setCell (p := ⟨p, 0, none⟩) hp v'
  have hne : some p ≠ v.ownBlock := by
    intro e
    rcases h.own.2 with ⟨rfl, _⟩ | ⟨g1, cap1, cur1, rfl, _, hg1, _⟩
    · simp [Value.ownBlock] at e
    · simp only [Value.ownBlock, Option.some.injEq] at e
      subst e
      have := h.sh
      rw [hg1] at this
      simp only [Option.some.injEq, Obj.cells.injEq] at this
      exact absurd this.2.1 (by decide)
  have hsh : w'.heap[p]? = some (.cells #[v] 44 (0, 0)) := (gr.block p (Array.getElem?_eq_some_iff.1 h.sh).1 hne).trans h.sh
  have hne2 : ∀ g, v'.ownBlock = some g → g ≠ p := by
    intro g hg e
    subst e
    rcases own.2 with ⟨rfl, _⟩ | ⟨g1, cap1, cur1, rfl, _, hg1, _⟩
    · cases hg
    · simp only [Value.ownBlock, Option.some.injEq] at hg
      subst hg
      rw [hg1] at hsh
      simp only [Option.some.injEq, Obj.cells.injEq] at hsh
      exact absurd hsh.2.1 (by decide)
  refine ⟨by omega, ?_, by have := h.len; simp; omega, ?_, ?_, hsl.later bs, bs⟩
  · rw [filter_snoc l k hk, ← h.acc', hx, ho]
    simp
  · rw [heap_setCell_same w' p 0 _ _ _ hsh]
    rfl
  · rw [← row_more, List.length_append, show 2 * (acc.length + [x].length) = 2 * acc.length + 2 by simp; omega]
    rcases own.2 with ⟨h1, h2⟩ | ⟨g1, cap1, cur1, h1, h2, hg1, h3⟩
    · exact ⟨own.1, .inl ⟨h1, h2⟩⟩
    · refine ⟨own.1, .inr ⟨g1, cap1, cur1, h1, h2, ?_, h3⟩⟩
      rw [Below.heap_setCell w' ⟨p, 0, none⟩ v' g1 (hne2 g1 (by rw [h1]; rfl))]
      exact hg1
set_option maxHeartbeats 4000000 in
theorem shelved_any (lv : Value) (l : List Sp) (w : World) (hs : SlS lv l w) (hf : ∀ x ∈ l, Fits x) (hl : l.length ≤ 100000) :
    Calls Try.prog 23 #[lv] w fun e w' => e = .returned (.pointer (some ⟨w.heap.size, 0, none⟩)) ∧ ShAt w.heap.size (shelfOf l) w' ∧ Below w.heap.size w w' := by
  have HS := Lib.hid hs
  obtain ⟨j0, gi, gz0, gz1, gz2⟩ := info_parts info_ce
  obtain ⟨A, cap, rfl, l1, l2, -⟩ := hs
  unfold maxLen at l2
  obtain ⟨n, hnn⟩ : ∃ n, l.length = n := ⟨_, rfl⟩
  have HN := Lib.hid hnn
  have HF := Lib.hid hf
  have b0 := box_latS (w := w) (.cells #[.slice none 0 0] 44)
  have M0 : SvAt w w.heap.size (.slice A l.length cap) l 0 (.slice none 0 0) [] (w.alloc (.cells #[.slice none 0 0] 44)) := ⟨by omega, by simp, by simp, heap_alloc_new w _, World.ownsRow_nil _ _ _ _, HS.out.later b0, b0⟩
  rw [hnn] at M0 l1 hl HS ⊢
  have M := Lib.hid M0
  clear hnn hf M0 b0
  go_enter Try.func23, Try.ntmps23
  go_wp2_with fail
  go_loopw [4] (fun i wr => ∃ (k : Nat) (acc : List Sp) (v : Value), i = .int .i64 k ∧ Hid (SvAt w w.heap.size (.slice A n cap) l k v acc wr)) (fun i _ => n - (intOf i).toNat)
  case atStart => exact ⟨0, [], _, rfl, M⟩
  case round =>
    obtain ⟨k, acc, v, rfl, M⟩ := hrel
    have hkn : k ≤ n := by have := M.out.le; rw [HN.out] at this; exact this
    by_cases hlt : k < n
    · have hkl : k < l.length := by rw [HN.out]; exact hlt
      obtain ⟨A2, c2, he, -, -, hr0⟩ := M.out.sl
      obtain ⟨bb, oo, hA, hrow⟩ := hr0 (by omega)
      obtain rfl : A = some ⟨bb, oo, none⟩ := by injection he with he _ _; exact he.trans hA
      obtain ⟨x0, x1, x2, x3, x4, x5, x6, x7⟩ := hrow.cells hkl
      have hb1 := hrow.1
      have cc := fun W => cells_any (l.getD k Sp.zero) W (getS_lt HF.out hkl)
      have HSK := Lib.hid (M.out.skip hkl)
      have HKL := Lib.hid hkl
      clear hrow hr0 he hA hkl
      obtain ⟨x, hx⟩ : ∃ x, l.getD k Sp.zero = x := ⟨_, rfl⟩
      have HX := Lib.hid hx
      rw [hx] at x0 x1 x2 x3 x4 x5 x6 x7 cc HSK
      clear hx
      unfold spVal at cc
      have CC := Lib.hid cc
      clear cc
      go_wp2_with fail
      refine (CC.out _).mono ?_
      rintro e w1 ⟨b1, hh⟩
      clear x0 x1 x2 x3 x4 x5 x6 x7
      rcases hh with ⟨ho, rfl⟩ | ⟨ho, g, -, rfl, tw⟩
      · have SK := Lib.hid ((HSK.out ho).later b1)
        clear b1 ho
        go_wp2_with fail
        go_roundw
        case rel => exact ⟨k + 1, acc, v, by go_num, SK⟩
        case measure => simp [intOf]; omega
      · have M1 := Lib.hid (M.out.later b1)
        have TW := Lib.hid tw
        have HO := Lib.hid ho
        have sh := M1.out.sh
        have v0 := cell_of_one sh
        have f0 := free_of_one sh
        have own := M1.out.own
        have hal := M1.out.len
        have hbs := M1.out.bel.size
        have hpl : w.heap.size < w1.heap.size := (Array.getElem?_eq_some_iff.1 sh).1
        clear b1 tw ho sh
        go_wp2_with (at_builtin; refine wpList_append_lies _ rfl _ _ 29 rfl w.heap.size 25 j0 (.agg #[.string ⟨#[]⟩, .int .i64 0, .string ⟨#[]⟩]) 3 40 Try.underlying29 gi gz0 gz1 gz2 rfl (by decide) _ (2 * acc.length) (rowOf (cellsOf acc)) rfl own ⟨g, 0, none⟩ 2 2 (rowOf [cellA x, cellI x]) rfl rfl (cells_news TW.out) (rowOf_one _) (by decide) (by unfold maxLen; omega) (by omega) hbs _ rfl ?_)
        intro g2 gc2 wb ownb grb altb ltb
        have MM := Lib.hid (M1.out.more HKL.out HX.out HO.out (Nat.le_refl _) HS.out ownb grb)
        have hne : some w.heap.size ≠ v.ownBlock := by
          intro e
          rcases own.2 with ⟨rfl, _⟩ | ⟨g1, cap1, cur1, rfl, _, hg1, _⟩
          · simp [Value.ownBlock] at e
          · simp only [Value.ownBlock, Option.some.injEq] at e
            have h2 := M1.out.sh
            rw [e, hg1] at h2
            simp only [Option.some.injEq, Obj.cells.injEq] at h2
            exact absurd h2.2.1 (by decide)
        have shb := (grb.block w.heap.size hpl hne).trans M1.out.sh
        have v1 := cell_of_one shb
        have f1 := free_of_one shb
        clear ownb grb altb ltb own v0 f0 hne shb
        go_wp2_with fail
        go_roundw
        case rel => exact ⟨k + 1, acc ++ [x], _, by go_num, MM⟩
        case measure => simp [intOf]; omega
    · obtain rfl : k = n := by omega
      have hacc : cellsOf acc = shelfOf l := by
        have := M.out.acc'
        rw [List.take_of_length_le (by rw [HN.out]; exact Nat.le_refl _)] at this
        rw [this]
        rfl
      have sh := M.out.sh
      have v0 := cell_of_one sh
      have HA := Lib.hid hacc
      clear hacc sh
      go_wp2_with fail
      go_ret
      refine ⟨rfl, ⟨⟨v, M.out.sh, ?_⟩, ?_⟩, M.out.bel⟩
      · rw [← HA.out]
        refine slAt_own (base := w.heap.size) ?_
        rw [cellsOf_length]
        exact M.out.own
      · rw [← HA.out]
        refine fits_cellsOf ?_
        intro z hz
        rw [M.out.acc'] at hz
        exact (List.mem_filter.1 hz).2
end Go.Proofs.Ytfkjdjdgcegniaa
