/- Cells in memory: ranges, stretches, appends. Printed by gen/tabG.py from the memory's texts. -/
import Derived.Test.YtanaoepakllohaaBlocksM
import Derived.Test.YtanaoepakllohaaMem1
import Derived.Test.YtanaoepakllohaaAppE
import Derived.Test.YtanaoepakllohaaRowOps
import Derived.Deep.MidRow
import Derived.Lib.Hide
import Derived.Laws.Cover1
import Derived.BigQuiet
import Derived.Deep.QuietTactic
import Derived.OneCell
import Derived.Deep.Onto
import Derived.OwnWalk
import Derived.Deep.Cut
import Derived.Laws.AppendOwnNone
import Derived.Deep.AppendLies
import Derived.Lib.SliceRun
set_option linter.unusedSimpArgs false
set_option linter.unusedVariables false

namespace Go.Proofs.Ytanaoepakllohaa
set_option maxRecDepth 16000
open Go.RowKit Spoor
theorem blk_later {b : Nat} {o : Obj} {W W' : World} (h : W.heap[b]? = some o) (hb : Below W.heap.size W W') : W'.heap[b]? = some o := by
  rw [hb.block b ((Array.getElem?_eq_some_iff.1 h).1)]; exact h
theorem blk_other {b : Nat} {o : Obj} {W : World} (h : W.heap[b]? = some o) (a : Addr) (hne : b ≠ a.block) (v : Value) : (W.setCell a v).heap[b]? = some o := (Below.heap_setCell W a v b hne).trans h
theorem btP {w a b : World} (h : Below w.heap.size w a) (k : Below a.heap.size a b) : Below w.heap.size w b := h.trans (k.mono h.size)
theorem cells3 {w : World} {g : Nat} {a b c : Value} {t : TypeId} (h : w.heap[g]? = some (.cells #[a, b, c] t (0, 0))) : w.cell? ⟨g, 0, none⟩ = some a ∧ w.cell? ⟨g, 1, none⟩ = some b ∧ w.cell? ⟨g, 2, none⟩ = some c := by
  refine ⟨?_, ?_, ?_⟩ <;> (rw [cell_of_row w g _ _ _ _ h]; rfl)
end Go.Proofs.Ytanaoepakllohaa

namespace Go.Proofs.Ytanaoepakllohaa
set_option maxRecDepth 16000
open Go.RowKit Spoor
set_option linter.unusedVariables false

theorem SlAt.row {A : Option Addr} {n cap : Nat} {l : List Ce} {w : World} (h : SlAt (.slice A n cap) l w) (hp : 0 < l.length) : ∃ b o, A = some ⟨b, o, none⟩ ∧ RowAt b o l w := by
  obtain ⟨A2, c2, he, _, _, hr⟩ := h
  obtain ⟨b, o, h1, h2⟩ := hr hp
  injection he with he _ _
  exact ⟨b, o, he.trans h1, h2⟩
/-- pages in memory -/
def PgsAt (v : Value) (gs : List (List Ce)) (w : World) : Prop := ∃ A cap, v = .slice A gs.length cap ∧ gs.length ≤ cap ∧ cap ≤ maxLen ∧ (0 < gs.length → ∃ g, A = some ⟨g, 0, none⟩ ∧ g < w.heap.size ∧ ∀ i, i < gs.length → ∃ s, w.cell? ⟨g, i, none⟩ = some s ∧ SlAt s (gs.getD i []) w)
theorem PgsAt.later {v : Value} {gs : List (List Ce)} {w w' : World} (h : PgsAt v gs w) (hb : Below w.heap.size w w') : PgsAt v gs w' := by
  obtain ⟨A, cap, h1, h2, h3, h4⟩ := h
  refine ⟨A, cap, h1, h2, h3, fun hp => ?_⟩
  obtain ⟨g, h5, h6, h7⟩ := h4 hp
  refine ⟨g, h5, Nat.lt_of_lt_of_le h6 hb.size, fun i hi => ?_⟩
  obtain ⟨s, h8, h9⟩ := h7 i hi
  exact ⟨s, (hb.cell (p := ⟨g, i, none⟩) h6).trans h8, h9.later hb⟩
theorem PgsAt.row {A : Option Addr} {n cap : Nat} {gs : List (List Ce)} {w : World} (h : PgsAt (.slice A n cap) gs w) (hp : 0 < gs.length) : ∃ g, A = some ⟨g, 0, none⟩ ∧ g < w.heap.size ∧ ∀ i, i < gs.length → ∃ s, w.cell? ⟨g, i, none⟩ = some s ∧ SlAt s (gs.getD i []) w := by
  obtain ⟨A2, c2, he, _, _, hr⟩ := h
  obtain ⟨g, h1, h2⟩ := hr hp
  injection he with he _ _
  exact ⟨g, he.trans h1, h2⟩
theorem head_getD (l : List Ce) : l.headD Ce.zero = l.getD 0 Ce.zero := by cases l <;> rfl
def keyCmp (c : Ce) (key : List UInt8) : Int := if Op.bytesLess c.k key then -1 else 1
theorem keyCmp_any (c : Ce) (key : List UInt8) (w : World) :
    Calls Try.prog 88 #[ceVal c, .string ⟨key.toArray⟩] w fun e w' => e = .returned (.int .i64 (keyCmp c key)) ∧ Below w.heap.size w w' := by
  have q1 := CeAt.boxed c w
  have b1 := (Below.refl w.heap.size w).alloc (Nat.le_refl _) (boxC c)
  obtain ⟨R, hR⟩ : ∃ R : Int, keyCmp c key = R := ⟨_, rfl⟩
  rw [hR]
  have HR := Lib.hid hR
  unfold boxC at q1 b1
  unfold ceVal
  clear hR
  cases e : Op.bytesLess c.k key with
  | true =>
    obtain rfl : R = -1 := by rw [← HR.out]; unfold keyCmp; rw [e]; rfl
    clear HR
    go_enter Try.func88, Try.ntmps88
    go_wp2_with fail
    go_ret
    exact ⟨rfl, b1⟩
  | false =>
    obtain rfl : R = 1 := by rw [← HR.out]; unfold keyCmp; rw [e]; rfl
    clear HR
    go_enter Try.func88, Try.ntmps88
    go_wp2_with fail
    go_ret
    exact ⟨rfl, b1⟩
set_option maxHeartbeats 4000000 in
theorem searchK_any (s : Value) (l : List Ce) (key : List UInt8) (t : Nat) (w : World) (hs : SlAt s l w) (hbig : l.length ≤ 1000000) (ht : t ≤ l.length)
    (h1 : ∀ i, i < t → Op.bytesLess (l.getD i Ce.zero).k key = true) (h2 : ∀ i, t ≤ i → i < l.length → Op.bytesLess (l.getD i Ce.zero).k key = false) :
    Calls Try.prog 87 #[s, .string ⟨key.toArray⟩, .func (.func 88) #[] #[]] w fun e w' => e = .returned (.tuple #[.int .i64 t, .bool false]) ∧ Below w.heap.size w w' := by
  obtain ⟨A, cap, rfl, g1, g2, -⟩ := id hs
  unfold maxLen at g2
  have HS := Lib.hid hs
  have H1 := Lib.hid h1
  have H2 := Lib.hid h2
  obtain ⟨n, hn⟩ : ∃ n, l.length = n := ⟨_, rfl⟩
  have HN := Lib.hid hn
  rw [hn] at g1 hbig ht HS ⊢
  clear hs h1 h2 hn 
  have b1 := Below.refl w.heap.size w
  go_enter Try.func87, Try.ntmps87
  go_wp2_with fail
  have hsz := Nat.le_refl w.heap.size
  go_loopw [9, 10] (fun i j wr => ∃ (a z : Nat), i = .int .i64 a ∧ j = .int .i64 z ∧ a ≤ t ∧ t ≤ z ∧ z ≤ n ∧ Below w.heap.size w wr) (fun i j _ => (intOf j).toNat - (intOf i).toNat)
  case atStart => exact ⟨0, n, rfl, rfl, by omega, ht, Nat.le_refl _, Below.refl _ _⟩
  case round =>
    obtain ⟨a, z, rfl, rfl, ha, hz, hzn, hb⟩ := hrel
    by_cases hlt : a < z
    · go_upto_region 5 with fail
      obtain ⟨h, hh⟩ : ∃ h : Nat, ((a : Int) + z) / 2 = h := ⟨((a + z) / 2 : Nat), by omega⟩
      have h3 : a ≤ h := by omega
      have h4 : h < z := by omega
      rw [hh]
      clear hh
      obtain ⟨b', o', rfl, hrow⟩ := (HS.out.later hb).row (by have := (show h < l.length from (by rw [HN.out]; omega)); omega)
      obtain ⟨x0, x1, x2⟩ := hrow.cells (i := h) (by rw [HN.out]; omega)
      have hlb := hrow.1
      have cc := fun W => keyCmp_any (l.getD h Ce.zero) key W
      clear hrow
      unfold ceVal at cc
      by_cases hht : h < t
      · have hr := H1.out h hht
        rw [show keyCmp (l.getD h Ce.zero) key = -1 from by unfold keyCmp; rw [hr]; rfl] at cc
        generalize l.getD h Ce.zero = d at *
        clear hr
        have CC := Lib.hid cc
        clear cc
        go_wp2_with fail
        refine (CC.out _).mono ?_
        rintro e w2 ⟨rfl, b2⟩
        have B := btP hb b2
        clear CC
        go_wp2_with fail
        go_roundw
        case rel => exact ⟨h + 1, z, by go_num, rfl, by omega, by omega, by omega, B⟩
        case measure => simp [intOf]; omega
      · have hr := H2.out h (by omega) (by rw [HN.out]; omega)
        rw [show keyCmp (l.getD h Ce.zero) key = 1 from by unfold keyCmp; rw [hr]; rfl] at cc
        generalize l.getD h Ce.zero = d at *
        clear hr
        have CC := Lib.hid cc
        clear cc
        go_wp2_with fail
        refine (CC.out _).mono ?_
        rintro e w2 ⟨rfl, b2⟩
        have B := btP hb b2
        clear CC
        go_wp2_with fail
        go_roundw
        case rel => exact ⟨a, h, rfl, rfl, by omega, by omega, by omega, B⟩
        case measure => simp [intOf]; omega
    · obtain rfl : a = t := by omega
      obtain rfl : z = a := by omega
      go_upto_region 8 with fail
      by_cases hzt : z < n
      · have hr := H2.out z (Nat.le_refl _) (by rw [HN.out]; exact hzt)
        obtain ⟨b', o', rfl, hrow⟩ := (HS.out.later hb).row (by have := (show z < l.length from (by rw [HN.out]; exact hzt)); omega)
        obtain ⟨x0, x1, x2⟩ := hrow.cells (i := z) (by rw [HN.out]; exact hzt)
        have hlb := hrow.1
        have cc := fun W => keyCmp_any (l.getD z Ce.zero) key W
        clear hrow
        unfold ceVal at cc
        rw [show keyCmp (l.getD z Ce.zero) key = 1 from by unfold keyCmp; rw [hr]; rfl] at cc
        generalize l.getD z Ce.zero = d at *
        clear hr
        have CC := Lib.hid cc
        clear cc
        go_wp2_with fail
        refine (CC.out _).mono ?_
        rintro e w2 ⟨rfl, b2⟩
        have B := btP hb b2
        clear CC
        go_wp2_with fail
        go_ret2
        exact ⟨rfl, B⟩
      · have e1 : decide (z < n) = false := decide_eq_false hzt
        have B := hb
        go_wp2_with fail
        go_ret2
        exact ⟨rfl, B⟩
end Go.Proofs.Ytanaoepakllohaa

namespace Spoor
open Go
/-- where the first cell of a key, or behind it, stands -/
def keyPos (l : List Ce) (key : List UInt8) : Nat := (l.takeWhile fun c => Op.bytesLess c.k key).length
theorem keyPos_le (l : List Ce) (key : List UInt8) : keyPos l key ≤ l.length := (List.takeWhile_sublist _).length_le
theorem keyPos_facts : ∀ {l : List Ce} (key : List UInt8), Rise l → (∀ i, i < keyPos l key → Op.bytesLess (l.getD i Ce.zero).k key = true) ∧ ∀ i, keyPos l key ≤ i → i < l.length → Op.bytesLess (l.getD i Ce.zero).k key = false
  | [], key, _ => ⟨fun i hi => by simp [keyPos] at hi, fun i _ hi => by simp at hi⟩
  | c :: l, key, h => by
    have h2 := List.pairwise_cons.1 h
    have ih := keyPos_facts key h2.2
    cases e : Op.bytesLess c.k key with
    | true =>
      have hk : keyPos (c :: l) key = keyPos l key + 1 := by unfold keyPos; rw [List.takeWhile_cons, e]; rfl
      rw [hk]
      refine ⟨fun i hi => ?_, fun i hi hl => ?_⟩
      · cases i with
        | zero => exact e
        | succ i => exact ih.1 i (by omega)
      · cases i with
        | zero => omega
        | succ i => exact ih.2 i (by omega) (by simpa using hl)
    | false =>
      have hk : keyPos (c :: l) key = 0 := by unfold keyPos; rw [List.takeWhile_cons, e]; rfl
      rw [hk]
      refine ⟨fun i hi => by omega, fun i hi hl => ?_⟩
      cases i with
      | zero => exact e
      | succ i =>
        have hm : (c :: l).getD (i + 1) Ce.zero ∈ l := by
          have : i < l.length := by simpa using hl
          simp [List.getD, this]
        cases f : Op.bytesLess ((c :: l).getD (i + 1) Ce.zero).k key with
        | false => rfl
        | true => rw [key_mono (h2.1 _ hm) f] at e; cases e
def endPos (l : List Ce) (from' to' : List UInt8) : Nat := if to' = [] then l.length else max (keyPos l from') (keyPos l to')
theorem endPos_facts {l : List Ce} (from' to' : List UInt8) (h : Rise l) : keyPos l from' ≤ endPos l from' to' ∧ endPos l from' to' ≤ l.length ∧ rangeC l from' to' = (l.drop (keyPos l from')).take (endPos l from' to' - keyPos l from') := by
  have h1 := keyPos_le l from'
  have h2 := keyPos_le l to'
  have f1 := keyPos_facts from' h
  have f2 := keyPos_facts to' h
  have e : keyPos l from' ≤ endPos l from' to' ∧ endPos l from' to' ≤ l.length := by
    unfold endPos
    split <;> omega
  refine ⟨e.1, e.2, ?_⟩
  refine rangeC_cut f1.1 f1.2 ?_ e.1 e.2
  unfold endPos
  by_cases ht : to' = []
  · left; exact ⟨ht, if_pos ht⟩
  · right
    rw [if_neg ht]
    refine ⟨ht, fun i h3 h4 h5 => f2.1 i (by omega), fun i h3 h4 => f2.2 i (by omega) h4⟩
end Spoor
namespace Go.Proofs.Ytanaoepakllohaa
set_option maxRecDepth 16000
open Go.RowKit Spoor
set_option linter.unusedVariables false

theorem at_any (s : Value) (l : List Ce) (key : List UInt8) (w : World) (hs : SlAt s l w) (hr : Rise l) (hbig : l.length ≤ 1000000) :
    Calls Try.prog 77 #[s, .string ⟨key.toArray⟩] w fun e w' => e = .returned (.int .i64 (keyPos l key)) ∧ Below w.heap.size w w' := by
  have f := keyPos_facts key hr
  have cc := searchK_any s l key (keyPos l key) w hs hbig (keyPos_le l key) f.1 f.2
  obtain ⟨A, cap, rfl, -, -, -⟩ := id hs
  generalize keyPos l key = t at *
  have CC := Lib.hid cc
  clear cc f hs hr
  generalize l.length = n at *
  go_enter Try.func77, Try.ntmps77
  go_wp2_with fail
  refine CC.out.mono ?_
  rintro e w1 ⟨rfl, hb⟩
  go_wp2_with fail
  go_ret
  exact ⟨rfl, hb⟩
theorem stretch_any (s : Value) (l : List Ce) (from' to' : List UInt8) (w : World) (hs : SlAt s l w) (hr : Rise l) (hbig : l.length ≤ 1000000) :
    Calls Try.prog 51 #[s, .string ⟨from'.toArray⟩, .string ⟨to'.toArray⟩] w fun e w' => e = .returned (.tuple #[.int .i64 (keyPos l from'), .int .i64 (endPos l from' to')]) ∧ Below w.heap.size w w' := by
  have c1 := at_any s l from' w hs hr hbig
  have c2 := fun W (h : Below w.heap.size w W) => at_any s l to' W (hs.later h) hr hbig
  have b1 := keyPos_le l from'
  have b2 := keyPos_le l to'
  obtain ⟨E, hE⟩ : ∃ E, endPos l from' to' = E := ⟨_, rfl⟩
  have hE2 := hE
  unfold endPos at hE2
  rw [hE]
  obtain ⟨A, cap, rfl, -, -, -⟩ := id hs
  generalize keyPos l from' = p at *
  generalize keyPos l to' = q at *
  generalize hn : l.length = n at *
  have C1 := Lib.hid c1
  have C2 := Lib.hid c2
  have HE := Lib.hid hE2
  clear c1 c2 hE hE2 hs hr
  by_cases ht : to' = []
  · subst ht
    obtain rfl : E = n := by rw [← HE.out, if_pos rfl]
    clear HE
    go_enter Try.func51, Try.ntmps51
    go_wp2_with fail
    refine C1.out.mono ?_
    rintro e w1 ⟨rfl, hb⟩
    go_wp2_with fail
    go_ret2
    exact ⟨rfl, hb⟩
  · have e1 : (to' == ([] : List UInt8)) = false := by simpa using ht
    have hm : max p q = E := by rw [← HE.out, if_neg ht]
    have HM := Lib.hid hm
    clear HE hm
    go_enter Try.func51, Try.ntmps51
    go_wp2_with fail
    refine C1.out.mono ?_
    rintro e w1 ⟨rfl, hb⟩
    go_wp2_with fail
    refine (C2.out _ hb).mono ?_
    rintro e w2 ⟨rfl, hb2⟩
    go_wp2_with fail
    go_ret2
    exact ⟨ret2 rfl (by have := HM.out; simp; omega), btP hb hb2⟩
/-- a page, in a block of its own -/
def PageAt (v : Value) (l : List Ce) (b : Nat) (w : World) : Prop := ∃ cap cur, v = .slice (some ⟨b, 0, none⟩) l.length cap ∧ l.length ≤ cap ∧ cap ≤ maxLen ∧ w.heap[b]? = some (.cells cur 36 (0, 0)) ∧ cap * 3 ≤ cur.size ∧ cur.toList.take (l.length * 3) = rowOf l
theorem PageAt.row {v : Value} {l : List Ce} {b : Nat} {w : World} (h : PageAt v l b w) : b < w.heap.size ∧ RowAt b 0 l w := by
  obtain ⟨cap, cur, rfl, h1, h2, h3, h4, h5⟩ := h
  have hlt := (Array.getElem?_eq_some_iff.1 h3).1
  refine ⟨hlt, hlt, fun i hi j u hj => ?_⟩
  have hj3 : j < 3 := (List.getElem?_eq_some_iff.1 hj).1
  have hr := rowOf_at l i j hi hj3
  rw [hj, ← h5, List.getElem?_take, if_pos (by omega)] at hr
  rw [World.cell?]
  simp only [h3]
  have : (0 + i * 3 + j) = i * 3 + j := by omega
  simp only [this]
  rw [← Array.getElem?_toList, hr]
  rfl
theorem PageAt.sl {v : Value} {l : List Ce} {b : Nat} {w : World} (h : PageAt v l b w) : SlAt v l w := by
  have hr := h.row
  obtain ⟨cap, cur, rfl, h1, h2, -⟩ := h
  exact ⟨_, _, rfl, h1, h2, fun _ => ⟨b, 0, rfl, hr.2⟩⟩
theorem flat_many : ∀ {gs : List (List Ce)}, (∀ g ∈ gs, 0 < g.length ∧ g.length ≤ 16) → gs.length ≤ gs.flatten.length
  | [], _ => by simp
  | g :: gs, h => by
    have := flat_many (gs := gs) (fun x hx => h x (by simp [hx]))
    have := (h g (by simp)).1
    rw [List.flatten_cons, List.length_append, List.length_cons]
    omega
end Go.Proofs.Ytanaoepakllohaa

namespace Go.Proofs.Ytanaoepakllohaa
set_option maxRecDepth 16000
open Go.RowKit Spoor
set_option linter.unusedVariables false

theorem info_one {P : Program} {e : TypeId} {z : Value} {s b : Nat} (h : (P.info? e).map (fun i => (i.zero, i.size, i.bytes)) = some (some z, s, b)) : ∃ i, P.info? e = some i ∧ i.zero = some z ∧ i.size = s ∧ i.bytes = b := by
  cases hi : P.info? e with
  | none => rw [hi] at h; simp at h
  | some i =>
    rw [hi] at h
    simp only [Option.map_some, Option.some.injEq, Prod.mk.injEq] at h
    exact ⟨i, rfl, h.1, h.2.1, h.2.2⟩
/-- what a slice of a row has -/
theorem row_part {b o lo hi : Nat} {l : List Ce} {w : World} (h : RowAt b o l w) (h1 : lo ≤ hi) (h2 : hi ≤ l.length) : ∀ j u, (rowOf ((l.drop lo).take (hi - lo)))[j]? = some u → w.cell? ((⟨b, o + lo * 3, none⟩ : Addr).add j) = some u := by
  intro j u hj
  have hlt := (List.getElem?_eq_some_iff.1 hj).1
  rw [rowOf_length, List.length_take, List.length_drop] at hlt
  have hi3 : j / 3 < hi - lo := by omega
  have hd : j / 3 * 3 + j % 3 = j := by omega
  have hr := rowOf_at ((l.drop lo).take (hi - lo)) (j / 3) (j % 3) (by rw [List.length_take, List.length_drop]; omega) (by omega)
  rw [hd, hj] at hr
  have hg : ((l.drop lo).take (hi - lo)).getD (j / 3) Ce.zero = l.getD (lo + j / 3) Ce.zero := by
    simp [List.getD, List.getElem?_take, hi3, List.getElem?_drop]
  rw [hg] at hr
  have := h.2 (lo + j / 3) (by omega) (j % 3) u hr.symm
  rw [show o + (lo + j / 3) * 3 + j % 3 = o + lo * 3 + j by omega] at this
  rw [Addr.add_lit]
  exact this
theorem own_lat {w w' : World} {base n : Nat} {v : Value} {xs : List Value} {e : TypeId} {sz : Nat} (h : w.ownsRow base e sz v n xs) (hb : Below w.heap.size w w') : w'.ownsRow base e sz v n xs := by
  refine ⟨h.1, ?_⟩
  rcases h.2 with ⟨h1, h2⟩ | ⟨g1, cap1, cur1, h1, h2, hg1, h3⟩
  · exact .inl ⟨h1, h2⟩
  · exact .inr ⟨g1, cap1, cur1, h1, h2, (hb.block g1 (Array.getElem?_eq_some_iff.1 hg1).1).trans hg1, h3⟩
theorem own_slice {w : World} {base sz n : Nat} {e : TypeId} {v : Value} {xs : List Value} (h : w.ownsRow base e sz v n xs) : ∃ A cap, v = .slice A n cap := by
  rcases h.2 with ⟨rfl, rfl⟩ | ⟨g, cap, cur, rfl, _⟩
  · exact ⟨none, 0, rfl⟩
  · exact ⟨_, cap, rfl⟩
end Go.Proofs.Ytanaoepakllohaa

namespace Go.Proofs.Ytanaoepakllohaa
set_option maxRecDepth 16000
open Go.RowKit Spoor
set_option linter.unusedVariables false

/-- all that was there, but for some blocks, is as it was -/
structure Fr (S : List Nat) (w w' : World) : Prop where
  os : w'.os = w.os
  tape : w'.tape = w.tape
  output : w'.output = w.output
  size : w.heap.size ≤ w'.heap.size
  block : ∀ k, k < w.heap.size → k ∉ S → w'.heap[k]? = w.heap[k]?
theorem Fr.of_below {S : List Nat} {w w' : World} (h : Below w.heap.size w w') : Fr S w w' := ⟨h.os, h.tape, h.output, h.size, fun k hk _ => h.block k hk⟩
theorem Fr.refl (S : List Nat) (w : World) : Fr S w w := Fr.of_below (Below.refl _ _)
theorem Fr.below {S : List Nat} {B : Nat} {w w' : World} (h : Fr S w w') (hB : B ≤ w.heap.size) (hS : ∀ x ∈ S, B ≤ x) : Below B w w' :=
  ⟨h.os, h.tape, h.output, h.size, fun k hk => h.block k (by omega) (fun hm => by have := hS k hm; omega)⟩
theorem Fr.trans {S T : List Nat} {a b c : World} (h : Fr S a b) (k : Fr T b c) (hT : ∀ x ∈ T, x ∈ S ∨ a.heap.size ≤ x) : Fr S a c :=
  ⟨k.os.trans h.os, k.tape.trans h.tape, k.output.trans h.output, Nat.le_trans h.size k.size, fun i hi hm => (k.block i (Nat.lt_of_lt_of_le hi h.size) (fun hx => by rcases hT i hx with h1 | h1; exact hm h1; omega)).trans (h.block i hi hm)⟩
theorem Fr.mono {S T : List Nat} {a b : World} (h : Fr S a b) (hT : ∀ x ∈ S, x ∈ T) : Fr T a b :=
  ⟨h.os, h.tape, h.output, h.size, fun i hi hm => h.block i hi (fun hx => hm (hT i hx))⟩
theorem Fr.grown {S : List Nat} {a b c : World} {row : Option Nat} (h : Fr S a b) (g : b.grownBy c row) (hr : ∀ k, row = some k → k ∈ S ∨ a.heap.size ≤ k) : Fr S a c :=
  ⟨g.os.trans h.os, g.tape.trans h.tape, g.output.trans h.output, Nat.le_trans h.size g.size, fun i hi hm => (g.block i (Nat.lt_of_lt_of_le hi h.size) (fun e => by rcases hr i e.symm with h1 | h1; exact hm h1; omega)).trans (h.block i hi hm)⟩
theorem Fr.set {S : List Nat} {a b : World} (h : Fr S a b) (p : Addr) (hp : p.block ∈ S ∨ a.heap.size ≤ p.block) (u : Value) : Fr S a (b.setCell p u) :=
  ⟨h.os, h.tape, h.output, by have := h.size; simpa [World.setCell] using this, fun i hi hm => (Below.heap_setCell b p u i (fun e => by rcases hp with h1 | h1; exact hm (e ▸ h1); omega)).trans (h.block i hi hm)⟩
theorem Fr.alloc {S : List Nat} {a b : World} (h : Fr S a b) (o : Obj) : Fr S a (b.alloc o) :=
  ⟨h.os, h.tape, h.output, by have := h.size; simp; omega, fun i hi hm => (Below.heap_alloc b o i (Nat.lt_of_lt_of_le hi h.size)).trans (h.block i hi hm)⟩
theorem Fr.cell {S : List Nat} {w w' : World} (h : Fr S w w') {p : Addr} (hp : p.block < w.heap.size) (hm : p.block ∉ S) : w'.cell? p = w.cell? p := World.cell?_of_block (w := w) (h.block p.block hp hm)
theorem PageAt.same {v : Value} {l : List Ce} {b : Nat} {w w' : World} (h : PageAt v l b w) (hk : w'.heap[b]? = w.heap[b]?) : PageAt v l b w' := by
  obtain ⟨cap, cur, h1, h2, h3, h4, h5⟩ := h
  exact ⟨cap, cur, h1, h2, h3, hk.trans h4, h5⟩
theorem getD_in {bs : List Nat} {i : Nat} (h : i < bs.length) : bs.getD i 0 ∈ bs := by simp [List.getD, h]
theorem PageAt.lt {v : Value} {l : List Ce} {b : Nat} {w : World} (h : PageAt v l b w) : b < w.heap.size := h.row.1
def ceV : Option Ce → Value
  | some c => .tuple #[ceVal c, .bool true]
  | none => .tuple #[ceVal Ce.zero, .bool false]
theorem bytes_snoc (l : List UInt8) : (⟨l.toArray⟩ : ByteArray) ++ ⟨#[0]⟩ = ⟨(l ++ [0]).toArray⟩ := by
  have := ByteArray.mk_append_mk l [0]
  simpa using this
end Go.Proofs.Ytanaoepakllohaa

namespace Go.Proofs.Ytanaoepakllohaa
set_option maxRecDepth 16000
open Go.RowKit Spoor
set_option linter.unusedVariables false

theorem row_all {b o : Nat} {l : List Ce} {w : World} (h : RowAt b o l w) : ∀ j u, (rowOf l)[j]? = some u → w.cell? ((⟨b, o, none⟩ : Addr).add j) = some u := by
  have := row_part (lo := 0) (hi := l.length) h (Nat.zero_le _) (Nat.le_refl _)
  simpa using this
set_option maxHeartbeats 4000000 in
theorem cloneC_any (b o n cap : Nat) (l : List Ce) (w : World) (hl : l.length = n) (h0 : 0 < n) (hbig : n ≤ 100000) (hr : RowAt b o l w) :
    Calls Try.prog 58 #[.slice (some ⟨b, o, none⟩) n cap] w fun e w' => Below w.heap.size w w' ∧ ∃ b' cap', e = .returned (.slice (some ⟨b', 0, none⟩) n cap') ∧ w.heap.size ≤ b' ∧ PageAt (.slice (some ⟨b', 0, none⟩) n cap') l b' w' := by
  have hXl : (rowOf l).length = n * 3 := by rw [rowOf_length, hl]
  obtain ⟨j0, gi, gz0, gz1, gz2⟩ := info_one info_ce
  have b1 := (Below.refl w.heap.size w).alloc (Nat.le_refl _) (.cells #[] 36)
  have hr1 := hr.later b1 hr.1
  obtain ⟨W, hW⟩ : ∃ W, w.alloc (.cells #[] 36) = W := ⟨_, rfl⟩
  have hWs : W.heap.size = w.heap.size + 1 := by rw [← hW]; simp
  rw [hW] at b1 hr1
  have hge := grownCap_ge W n 0 36
  have hle := grownCap_le_maxLen W n 0 36 (by unfold maxLen; omega)
  have hrun : ∀ ty, (Builtin.append_ #[22, 22] ty #[.slice (some ⟨w.heap.size, 0, none⟩) 0 0, .slice (some ⟨b, o, none⟩) n cap]).run Try.prog W = .ok (.slice (some ⟨W.heap.size, 0, none⟩) n (grownCap W n 0 36)) (W.drew.alloc (.cells ((rowOf l).toArray ++ Builtin.zeroCells ((.agg #[.string ⟨#[]⟩, .int .i64 0, .string ⟨#[]⟩]) : Value).cells (grownCap W n 0 36 - n)) 36)) := fun ty => by
    have := run_append_grow (P := Try.prog) W 22 ty 36 j0 _ Try.underlying22 gi gz0 ⟨w.heap.size, 0, none⟩ 0 0 [] (by simp) (by simp) ⟨b, o, none⟩ n cap (rowOf l) (by rw [gz1]; exact hXl) (row_all hr1) (by omega) (by omega) (by rw [gz2]; exact growslice_fits (by omega) (by omega))
    simpa using this
  obtain ⟨G, hG⟩ : ∃ G, grownCap W n 0 36 = G := ⟨_, rfl⟩
  rw [hG] at hrun hge hle
  obtain ⟨R, hRR⟩ : ∃ R, (rowOf l).toArray ++ Builtin.zeroCells ((.agg #[.string ⟨#[]⟩, .int .i64 0, .string ⟨#[]⟩]) : Value).cells (G - n) = R := ⟨_, rfl⟩
  rw [hRR] at hrun
  have hRs : R.size = G * 3 := by
    rw [← hRR, Array.size_append, size_zeroCells, List.size_toArray, hXl]
    show n * 3 + (G - n) * 3 = _
    omega
  have hfin : PageAt (.slice (some ⟨W.heap.size, 0, none⟩) n G) l W.heap.size (W.drew.alloc (.cells R 36)) := by
    refine ⟨G, R, by rw [hl], by rw [hl]; exact hge, hle, heap_alloc_new W.drew _, by omega, ?_⟩
    rw [hl, ← hRR, Array.toList_append, List.toList_toArray, List.take_left' hXl]
  have bfin : Below w.heap.size w (W.drew.alloc (.cells R 36)) := b1.drew.alloc b1.size _
  rw [hWs] at hfin hrun
  have HF := Lib.hid (And.intro hfin bfin)
  have HRUN := Lib.hid hrun
  have hW2 := hW
  clear hfin bfin hrun hRR hRs hXl hr hr1 b1 gi gz0 gz1 gz2 hG hge hle
  subst hW
  clear hW2 hWs
  have heq : ∀ W, (binOp .eql 22 (.slice (some ⟨b, o, none⟩) n cap) (.slice none 0 0)).run Try.prog W = .ok (.bool false) W := fun W => Lib.run_eql_slice_nil W 22 36 (some ⟨b, o, none⟩) n cap 0 0 Try.underlying22
  go_enter Try.func58, Try.ntmps58
  go_wp2_with (refine wpList_append_runE _ rfl _ _ 22 22 rfl _ _ rfl rfl (HRUN.out _) ?_)
  go_ret
  exact ⟨HF.out.2, w.heap.size + 1, G, rfl, Nat.le_succ _, HF.out.1⟩
end Go.Proofs.Ytanaoepakllohaa

namespace Go.Proofs.Ytanaoepakllohaa
set_option maxRecDepth 16000
open Go.RowKit Spoor Go.Shelf
theorem RowAt.part {b o : Nat} {l : List Ce} {w : World} (h : RowAt b o l w) (lo n : Nat) (hn : lo + n ≤ l.length) : RowAt b (o + lo * 3) ((l.drop lo).take n) w := by
  refine ⟨h.1, fun i hi j u hj => ?_⟩
  rw [List.length_take, List.length_drop] at hi
  have hg : ((l.drop lo).take n).getD i Ce.zero = l.getD (lo + i) Ce.zero := by
    have : i < n := by omega
    simp [List.getD, List.getElem?_take, this, List.getElem?_drop]
  rw [hg] at hj
  have := h.2 (lo + i) (by omega) j u hj
  rw [show o + lo * 3 + i * 3 + j = o + (lo + i) * 3 + j by omega]
  exact this

theorem own_not {W : World} {n₁ n r : Nat} {v : Value} {vs : List Value} {e : TypeId} {sz : Nat} (h : W.ownsRow n₁ e sz v n vs) {o : Obj} (ho : W.heap[r]? = some o) (hc : ∀ cur, o ≠ .cells cur e (0, 0)) : v.ownBlock ≠ some r := by
  rcases h.2 with ⟨rfl, _⟩ | ⟨g, cap, cur, rfl, _, hgb, _⟩
  · simp [Value.ownBlock]
  · intro e'
    have e2 : g = r := by simpa [Value.ownBlock] using e'
    rw [← e2, hgb] at ho
    cases ho
    exact hc _ rfl
theorem own_same {w w' : World} {base n : Nat} {v : Value} {xs : List Value} {e : TypeId} {sz : Nat} (h : w.ownsRow base e sz v n xs) (hs : ∀ g, v.ownBlock = some g → w'.heap[g]? = w.heap[g]?) : w'.ownsRow base e sz v n xs := by
  refine ⟨h.1, ?_⟩
  rcases h.2 with ⟨h1, h2⟩ | ⟨g1, cap1, cur1, rfl, h2, hg1, h3⟩
  · exact .inl ⟨h1, h2⟩
  · exact .inr ⟨g1, cap1, cur1, rfl, h2, (hs g1 rfl).trans hg1, h3⟩
end Go.Proofs.Ytanaoepakllohaa

namespace Go.Proofs.Ytanaoepakllohaa
set_option maxRecDepth 16000
open Go.RowKit Spoor
/-- cells appended to cells -/
theorem run_append_sl {base : Nat} {v u : Value} {l m : List Ce} {w : World} (own : w.ownsRow base 36 3 v l.length (rowOf l)) (hb : base ≤ w.heap.size) (hu : SlAt u m w) (hsz : l.length + m.length ≤ 100000) :
    ∃ v' w', (Builtin.append_ #[22, 22] 22 #[v, u]).run Try.prog w = .ok v' w' ∧ w'.ownsRow base 36 3 v' (l ++ m).length (rowOf (l ++ m)) ∧ Below base w w' := by
  obtain ⟨j0, gi, gz0, gz1, gz2⟩ := info_one info_ce
  obtain ⟨A, cap, rfl, h1, h2, h3⟩ := hu
  obtain ⟨v', w', hr, r1, r2⟩ := run_append_every2 w 22 22 22 base 36 36 j0 _ 3 40 Try.underlying22 Try.underlying22 gi gz0 gz1 gz2 rfl (by decide) v l.length (rowOf l) own A m.length cap (rowOf m) (rowOf_length m)
    (fun h0 => by
      obtain ⟨b, o, rfl, hrow⟩ := h3 h0
      exact ⟨_, rfl, row_all hrow⟩) (rowOf_one m) (by unfold maxLen; omega) (by omega) hb
  refine ⟨v', w', hr, ?_, ?_⟩
  · rw [List.length_append]
    have : rowOf (l ++ m) = rowOf l ++ rowOf m := by simp [rowOf]
    rw [this]
    exact r1
  · refine (Below.refl base w).grown r2 hb fun k hk => ?_
    rcases own.2 with ⟨rfl, _⟩ | ⟨g, c, cur, rfl, hg, _⟩
    · simp [Value.ownBlock] at hk
    · have : g = k := by simpa [Value.ownBlock] using hk
      omega
theorem own_none (w : World) : (w.alloc (.cells #[] 36)).ownsRow w.heap.size 36 3 (.slice (some ⟨w.heap.size, 0, none⟩) 0 0) ([] : List Ce).length (rowOf []) :=
  ⟨rfl, .inr ⟨w.heap.size, 0, #[], rfl, Nat.le_refl _, heap_alloc_new w _, Nat.le_refl _, by unfold maxLen; omega, rfl, rfl⟩⟩

end Go.Proofs.Ytanaoepakllohaa

namespace Go.Proofs.Ytanaoepakllohaa
set_option maxRecDepth 16000
open Go.RowKit Spoor
/-- a block that holds the cells, and may be written -/
def RowW (g cap : Nat) (l : List Ce) (w : World) : Prop := ∃ cur : Array Value, w.heap[g]? = some (.cells cur 36 (0, 0)) ∧ cur.size = cap * 3 ∧ l.length ≤ cap ∧ ∀ i, i < l.length → ∀ j, j < 3 → cur[i * 3 + j]? = (ceRow (l.getD i Ce.zero))[j]?
theorem RowW.row {g cap : Nat} {l : List Ce} {w : World} (h : RowW g cap l w) : RowAt g 0 l w := by
  obtain ⟨cur, h1, h2, h3, h4⟩ := h
  refine ⟨(Array.getElem?_eq_some_iff.1 h1).1, fun i hi j v hv => ?_⟩
  have hj : j < 3 := by
    have := (List.getElem?_eq_some_iff.1 hv).1
    simpa [ceRow] using this
  rw [cell_of_row w g _ _ _ _ h1, Nat.zero_add, h4 i hi j hj]
  exact hv
theorem RowW.free {g cap : Nat} {l : List Ce} {w : World} (h : RowW g cap l w) (o : Nat) : w.frozen? ⟨g, o, none⟩ = false := by
  obtain ⟨cur, h1, _⟩ := h
  simp [World.frozen?, h1]
theorem RowW.put {g cap : Nat} {l : List Ce} {w : World} (h : RowW g cap l w) {k : Nat} (hk : k < l.length) (c : Ce) :
    RowW g cap (l.set k c) (((w.setCell ⟨g, k * 3, none⟩ (.string ⟨c.k.toArray⟩)).setCell ⟨g, k * 3 + 1, none⟩ (.int .i64 c.q)).setCell ⟨g, k * 3 + 2, none⟩ (.string ⟨c.v.toArray⟩)) := by
  obtain ⟨cur, h1, h2, h3, h4⟩ := h
  have a1 := heap_setCell_same w g (k * 3) _ _ (.string ⟨c.k.toArray⟩) h1
  have a2 := heap_setCell_same _ g (k * 3 + 1) _ _ (.int .i64 c.q) a1
  have a3 := heap_setCell_same _ g (k * 3 + 2) _ _ (.string ⟨c.v.toArray⟩) a2
  refine ⟨_, a3, by simpa using h2, by simpa using h3, fun i hi j hj => ?_⟩
  rw [List.length_set] at hi
  simp only [Array.getElem?_setIfInBounds, Array.size_setIfInBounds]
  by_cases e : i = k
  · subst e
    have hg : (l.set i c).getD i Ce.zero = c := by simp [List.getD, hi]
    rw [hg]
    rcases (by omega : j = 0 ∨ j = 1 ∨ j = 2) with rfl | rfl | rfl
    · rw [if_neg (by omega), if_neg (by omega), if_pos (by omega), if_pos (by omega)]; rfl
    · rw [if_neg (by omega), if_pos (by omega), if_pos (by omega)]; rfl
    · rw [if_pos (by omega), if_pos (by omega)]; rfl
  · have hg : (l.set k c).getD i Ce.zero = l.getD i Ce.zero := by simp [List.getD, List.getElem?_set, Ne.symm e]
    rw [hg, if_neg (by omega), if_neg (by omega), if_neg (by omega)]
    exact h4 i hi j hj
theorem rowW_own {w : World} {base : Nat} {v : Value} {l : List Ce} (h : w.ownsRow base 36 3 v l.length (rowOf l)) (hl : 0 < l.length) : ∃ g cap, v = .slice (some ⟨g, 0, none⟩) l.length cap ∧ base ≤ g ∧ l.length ≤ cap ∧ cap ≤ maxLen ∧ RowW g cap l w := by
  rcases h.2 with ⟨_, h0⟩ | ⟨g, cap, cur, rfl, hb, hg, hn, hm, hc, ht⟩
  · omega
  · refine ⟨g, cap, rfl, hb, hn, hm, cur, hg, hc, hn, fun i hi j hj => ?_⟩
    have h1 : (cur.toList.take (l.length * 3))[i * 3 + j]? = (ceRow (l.getD i Ce.zero))[j]? := by rw [ht]; exact rowOf_at l i j hi hj
    rw [List.getElem?_take, if_pos (by omega)] at h1
    simpa using h1
theorem RowW.later {g cap : Nat} {l : List Ce} {w w' : World} (h : RowW g cap l w) (hb : Below w.heap.size w w') : RowW g cap l w' := by
  obtain ⟨cur, h1, h2⟩ := h
  exact ⟨cur, by rw [hb.block g (Array.getElem?_eq_some_iff.1 h1).1]; exact h1, h2⟩
theorem RowW.sl {g cap : Nat} {l : List Ce} {w : World} (h : RowW g cap l w) (hm : cap ≤ maxLen) {n : Nat} (hn : l.length = n) : SlAt (.slice (some ⟨g, 0, none⟩) n cap) l w := by
  obtain ⟨cur, h1, h2, h3, h4⟩ := id h
  subst hn
  exact ⟨_, cap, rfl, h3, hm, fun _ => ⟨g, 0, rfl, h.row⟩⟩
theorem RowAt.dropSl {b o cap K : Nat} {l : List Ce} {w : World} (h : RowAt b o l w) (hK : K ≤ l.length) (hc : l.length ≤ cap) (hm : cap ≤ maxLen) {n : Nat} (hn : l.length = n) : SlAt (.slice (some ⟨b, o + K * 3, none⟩) (n - K) (cap - K)) (l.drop K) w := by
  subst hn
  have hp := h.part K (l.length - K) (by omega)
  rw [List.take_of_length_le (by rw [List.length_drop]; exact Nat.le_refl _)] at hp
  exact ⟨_, cap - K, by rw [List.length_drop], by rw [List.length_drop]; omega, Nat.le_trans (Nat.sub_le _ _) hm, fun _ => ⟨b, o + K * 3, rfl, hp⟩⟩
theorem RowAt.takeSl {b o cap K : Nat} {l : List Ce} {w : World} (h : RowAt b o l w) (hK : K ≤ l.length) (hc : l.length ≤ cap) (hm : cap ≤ maxLen) : SlAt (.slice (some ⟨b, o, none⟩) K cap) (l.take K) w := by
  have hp := h.part 0 K (by omega)
  rw [List.drop_zero, Nat.zero_mul, Nat.add_zero] at hp
  have hl : (l.take K).length = K := by rw [List.length_take]; omega
  exact ⟨_, cap, by rw [hl], by omega, hm, fun _ => ⟨b, o, rfl, hp⟩⟩
end Go.Proofs.Ytanaoepakllohaa

namespace Go.Proofs.Ytanaoepakllohaa
set_option maxRecDepth 16000
open Go.RowKit Spoor
theorem run_append_slk {base : Nat} {v u : Value} {l m : List Ce} {w : World} (own : w.ownsRow base 36 3 v l.length (rowOf l)) (hb : base ≤ w.heap.size) (hu : SlAt u m w) (hsz : l.length + m.length ≤ 100000) :
    ∃ v' w', (Builtin.append_ #[22, 22] 22 #[v, u]).run Try.prog w = .ok v' w' ∧ w'.ownsRow base 36 3 v' (l ++ m).length (rowOf (l ++ m)) ∧ Below base w w' ∧ ∀ k, k < w.heap.size → some k ≠ v.ownBlock → w'.heap[k]? = w.heap[k]? := by
  obtain ⟨j0, gi, gz0, gz1, gz2⟩ := info_one info_ce
  obtain ⟨A, cap, rfl, h1, h2, h3⟩ := hu
  obtain ⟨v', w', hr, r1, r2⟩ := run_append_every2 w 22 22 22 base 36 36 j0 _ 3 40 Try.underlying22 Try.underlying22 gi gz0 gz1 gz2 rfl (by decide) v l.length (rowOf l) own A m.length cap (rowOf m) (rowOf_length m)
    (fun h0 => by
      obtain ⟨b, o, rfl, hrow⟩ := h3 h0
      exact ⟨_, rfl, row_all hrow⟩) (rowOf_one m) (by unfold maxLen; omega) (by omega) hb
  refine ⟨v', w', hr, ?_, ?_, r2.block⟩
  · rw [List.length_append]
    have : rowOf (l ++ m) = rowOf l ++ rowOf m := by simp [rowOf]
    rw [this]
    exact r1
  · refine (Below.refl base w).grown r2 hb fun k hk => ?_
    rcases own.2 with ⟨rfl, _⟩ | ⟨g, c, cur, rfl, hg, _⟩
    · simp [Value.ownBlock] at hk
    · have : g = k := by simpa [Value.ownBlock] using hk
      omega
theorem sl_box {g : Nat} {c : Ce} {w : World} (h : w.heap[g]? = some (boxC c)) : SlAt (.slice (some ⟨g, 0, none⟩) 1 1) [c] w := by
  refine ⟨some ⟨g, 0, none⟩, 1, rfl, Nat.le_refl _, by unfold maxLen; omega, fun _ => ⟨g, 0, rfl, (Array.getElem?_eq_some_iff.1 h).1, fun i hi j u hu => ?_⟩⟩
  obtain rfl : i = 0 := by simpa using hi
  obtain ⟨x0, x1, x2⟩ := (show CeAt g c w from h).cell
  have hj : j < 3 := by
    have := (List.getElem?_eq_some_iff.1 hu).1
    simpa [ceRow] using this
  rcases (by omega : j = 0 ∨ j = 1 ∨ j = 2) with rfl | rfl | rfl
  · simp [ceRow] at hu
    rw [← hu]
    exact x0
  · simp [ceRow] at hu
    rw [← hu]
    exact x1
  · simp [ceRow] at hu
    rw [← hu]
    exact x2
theorem rowW_own' {w : World} {base : Nat} {v : Value} {l : List Ce} (h : w.ownsRow base 36 3 v l.length (rowOf l)) (hl : 0 < l.length) : ∃ g cap, v = .slice (some ⟨g, 0, none⟩) l.length cap ∧ base ≤ g ∧ l.length ≤ cap ∧ cap ≤ maxLen ∧ RowAt g 0 l w := by
  obtain ⟨A, cap, e1, e2, e3, e4⟩ := slAt_own h
  rcases h.2 with ⟨_, h0⟩ | ⟨g, cap', cur, rfl, hb, -⟩
  · omega
  · cases e1
    obtain ⟨b, o, e5, e6⟩ := e4 hl
    cases e5
    exact ⟨g, cap, rfl, hb, e2, e3, e6⟩
end Go.Proofs.Ytanaoepakllohaa
