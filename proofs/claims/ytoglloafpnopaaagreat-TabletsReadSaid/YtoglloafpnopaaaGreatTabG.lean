/- Cells in memory: ranges, stretches, appends. Printed by gen/tabG.py from the memory's texts. -/
import Derived.Test.YtoglloafpnopaaaGreatTE
import Derived.Test.YtoglloafpnopaaaGreatTF
import Derived.Deep.MidRow
import Derived.Lib.Hide
import Derived.Laws.Cover1
import Derived.BigQuiet
import Derived.Deep.QuietTactic
import Derived.OneCell
import Derived.Deep.Onto
import Derived.OwnWalk
import Derived.Deep.Cut
import Derived.Laws.AppendOwnNone
import Derived.Deep.AppendLies
import Derived.Lib.SliceRun
set_option linter.unusedSimpArgs false
set_option linter.unusedVariables false
namespace Go.Proofs.YtoglloafpnopaaaGreat
set_option maxRecDepth 16000
open Go.RowKit Spoor
theorem blk_later {b : Nat} {o : Obj} {W W' : World} (h : W.heap[b]? = some o) (hb : Below W.heap.size W W') : W'.heap[b]? = some o := by
 rw [hb.block b ((Go.ltA h))]; exact h
theorem btP {w a b : World} (h : Below w.heap.size w a) (k : Below a.heap.size a b) : Below w.heap.size w b := h.trans (k.mono h.size)
theorem cells3 {w : World} {g : Nat} {a b c : Value} {t : TypeId} (h : w.heap[g]? = some (.cells #[a, b, c] t (0, 0))) : w.cell? ⟨g, 0, none⟩ = some a ∧ w.cell? ⟨g, 1, none⟩ = some b ∧ w.cell? ⟨g, 2, none⟩ = some c := by
 refine ⟨?_, ?_, ?_⟩ <;> (rw [cell_of_row w g _ _ _ _ h]; rfl)
theorem SlAt.row {A : Option Addr} {n cap : Nat} {l : List Ce} {w : World} (h : SlAt (.slice A n cap) l w) (hp : 0 < l.length) : ∃ b o, A = some ⟨b, o, none⟩ ∧ RowAt b o l w := by
 obtain ⟨A2, c2, he, _, _, hr⟩ := h
 obtain ⟨b, o, h1, h2⟩ := hr hp
 injection he with he _ _
 exact ⟨b, o, he.trans h1, h2⟩
def PgsAt (v : Value) (gs : List (List Ce)) (w : World) : Prop := ∃ A cap, v = .slice A gs.length cap ∧ gs.length ≤ cap ∧ cap ≤ maxLen ∧ (0 < gs.length → ∃ g, A = some ⟨g, 0, none⟩ ∧ g < w.heap.size ∧ ∀ i, i < gs.length → ∃ s, w.cell? ⟨g, i, none⟩ = some s ∧ SlAt s (gs.getD i []) w)
theorem PgsAt.later {v : Value} {gs : List (List Ce)} {w w' : World} (h : PgsAt v gs w) (hb : Below w.heap.size w w') : PgsAt v gs w' := by
 obtain ⟨A, cap, h1, h2, h3, h4⟩ := h
 refine ⟨A, cap, h1, h2, h3, fun hp => ?_⟩
 obtain ⟨g, h5, h6, h7⟩ := h4 hp
 refine ⟨g, h5, Nat.lt_of_lt_of_le h6 hb.size, fun i hi => ?_⟩
 obtain ⟨s, h8, h9⟩ := h7 i hi
 exact ⟨s, (hb.cell (p := ⟨g, i, none⟩) h6).trans h8, h9.later hb⟩
theorem PgsAt.row {A : Option Addr} {n cap : Nat} {gs : List (List Ce)} {w : World} (h : PgsAt (.slice A n cap) gs w) (hp : 0 < gs.length) : ∃ g, A = some ⟨g, 0, none⟩ ∧ g < w.heap.size ∧ ∀ i, i < gs.length → ∃ s, w.cell? ⟨g, i, none⟩ = some s ∧ SlAt s (gs.getD i []) w := by
 obtain ⟨A2, c2, he, _, _, hr⟩ := h
 obtain ⟨g, h1, h2⟩ := hr hp
 injection he with he _ _
 exact ⟨g, he.trans h1, h2⟩
theorem head_getD (l : List Ce) : l.headD Ce.zero = l.getD 0 Ce.zero := by cases l <;> rfl
theorem behind_any (s : Value) (l : List Ce) (c : Ce) (w : World) (hs : SlAt s l w) (h0 : 0 < l.length) :
 Calls Tryz.prog 110 #[s, ceVal c] w fun e w' => e = .returned (.int .i64 (if 0 < cmpCe (l.headD Ce.zero) c then 1 else -1)) ∧ Below w.heap.size w w' := by
 obtain ⟨A, cap, rfl, h1, h2, h3⟩ := hs
 unfold maxLen at h2
 obtain ⟨b, o, rfl, hrow⟩ := h3 h0
 obtain ⟨n, hn⟩ : ∃ n, l.length = n := ⟨_, rfl⟩
 have hc := hrow.cells (i := 0) h0
 have hlb := hrow.1
 rw [hn] at h1 h0 ⊢
 rw [head_getD]
 have cc := fun W => compare_any (l.getD 0 Ce.zero) c W
 have q1 := CeAt.boxed c w
 have b1 := (Below.refl w.heap.size w).alloc (Nat.le_refl _) (boxC c)
 have hrow1 := hrow.later b1 hlb
 have hc1 := hrow1.cells (i := 0) (by rw [hn]; exact h0)
 generalize hd : l.getD 0 Ce.zero = d at *
 obtain ⟨r, hr⟩ : ∃ r, cmpCe d c = r := ⟨_, rfl⟩
 rw [hr] at cc ⊢
 obtain ⟨R, hR⟩ : ∃ R : Int, (if 0 < r then 1 else -1) = R := ⟨_, rfl⟩
 rw [hR]
 have HR := Lib.hid hR
 unfold boxC at q1 b1 hc1 hrow1
 unfold ceVal at cc ⊢
 have CC := Lib.hid cc
 clear cc hrow h3 hn hd hr hc hR
 have hlb1 := hrow1.1
 obtain ⟨x0, x1, x2⟩ := hc1
 simp only [Nat.zero_mul, Nat.add_zero] at x0 x1 x2
 clear hrow1
 go_enter Tryz.func110, Tryz.ntmps110
 go_wp2_with fail
 generalize w.alloc _ = w1 at *
 obtain ⟨y0, y1, y2⟩ := q1.cell
 have lt1 := q1.lt
 clear q1
 by_cases hp : 0 < r
 · have e1 : decide (0 < r) = true := decide_eq_true hp
   obtain rfl : R = 1 := by rw [← HR.out, if_pos hp]
   clear hp HR
   refine wp_region_more (by kernel_rfl) (by kernel_rfl) ?_
   repeat (go_big_quiet_step (fail))
   go_big_quiet_step (exact Calls.more (CC.out _))
   repeat (go_big_quiet_step (fail))
   refine wpQuiet_nil ?_
   rintro _ ⟨ex, rfl⟩
   have b2 := World.below_more w1 ex
   generalize w1.more ex = w2 at *
   go_wp2_with fail
   go_ret
   exact ⟨rfl, b1.trans (b2.mono (Nat.le_of_lt lt1))⟩
 · have e1 : decide (0 < r) = false := decide_eq_false hp
   obtain rfl : R = -1 := by rw [← HR.out, if_neg hp]
   clear hp HR
   refine wp_region_more (by kernel_rfl) (by kernel_rfl) ?_
   repeat (go_big_quiet_step (fail))
   go_big_quiet_step (exact Calls.more (CC.out _))
   repeat (go_big_quiet_step (fail))
   refine wpQuiet_nil ?_
   rintro _ ⟨ex, rfl⟩
   have b2 := World.below_more w1 ex
   generalize w1.more ex = w2 at *
   go_wp2_with fail
   go_ret
   exact ⟨rfl, b1.trans (b2.mono (Nat.le_of_lt lt1))⟩
def keyCmp (c : Ce) (key : List UInt8) : Int := if Op.bytesLess c.k key then -1 else 1
theorem keyCmp_any (c : Ce) (key : List UInt8) (w : World) :
 Calls Tryz.prog 125 #[ceVal c, .string ⟨key.toArray⟩] w fun e w' => e = .returned (.int .i64 (keyCmp c key)) ∧ Below w.heap.size w w' := by
 have q1 := CeAt.boxed c w
 have b1 := (Below.refl w.heap.size w).alloc (Nat.le_refl _) (boxC c)
 obtain ⟨R, hR⟩ : ∃ R : Int, keyCmp c key = R := ⟨_, rfl⟩
 rw [hR]
 have HR := Lib.hid hR
 unfold boxC at q1 b1
 unfold ceVal
 clear hR
 cases e : Op.bytesLess c.k key with
 | true =>
   obtain rfl : R = -1 := by rw [← HR.out]; unfold keyCmp; rw [e]; rfl
   clear HR
   go_enter Tryz.func125, Tryz.ntmps125
   go_wp2_with fail
   go_ret
   exact ⟨rfl, b1⟩
 | false =>
   obtain rfl : R = 1 := by rw [← HR.out]; unfold keyCmp; rw [e]; rfl
   clear HR
   go_enter Tryz.func125, Tryz.ntmps125
   go_wp2_with fail
   go_ret
   exact ⟨rfl, b1⟩
set_option maxHeartbeats 4000000 in
theorem searchP_any (s : Value) (l : List (List Ce)) (c : Ce) (t : Nat) (w : World) (hs : PgsAt s l w) (hg : ∀ g ∈ l, 0 < g.length) (hbig : l.length ≤ 1000000) (ht : t ≤ l.length)
 (h1 : ∀ i, i < t → cmpCe ((l.getD i []).headD Ce.zero) c ≤ 0) (h2 : ∀ i, t ≤ i → i < l.length → 0 < cmpCe ((l.getD i []).headD Ce.zero) c) :
 Calls Tryz.prog 109 #[s, ceVal c, .func (.func 110) #[] #[]] w fun e w' => e = .returned (.tuple #[.int .i64 t, .bool false]) ∧ Below w.heap.size w w' := by
 obtain ⟨A, cap, rfl, g1, g2, -⟩ := id hs
 unfold maxLen at g2
 have HS := Lib.hid hs
 have H1 := Lib.hid h1
 have H2 := Lib.hid h2
 have HG := Lib.hid hg
 obtain ⟨n, hn⟩ : ∃ n, l.length = n := ⟨_, rfl⟩
 have HN := Lib.hid hn
 rw [hn] at g1 hbig ht HS ⊢
 clear hs h1 h2 hn hg
 have q1 := CeAt.boxed c w
 have b1 := (Below.refl w.heap.size w).alloc (Nat.le_refl _) (boxC c)
 have HS := Lib.hid (HS.out.later b1)
 unfold boxC at q1 b1 HS
 unfold ceVal
 go_enter Tryz.func109, Tryz.ntmps109
 go_wp2_with fail
 generalize w.alloc _ = w1 at *
 have hsz := Nat.le_of_lt q1.lt
 generalize hg0 : w.heap.size = g at q1 hsz ⊢
 have HG0 := Lib.hid hg0
 clear hg0
 go_loopw [9, 10] (fun i j wr => ∃ (a z : Nat), i = .int .i64 a ∧ j = .int .i64 z ∧ a ≤ t ∧ t ≤ z ∧ z ≤ n ∧ Below w1.heap.size w1 wr) (fun i j _ => (intOf j).toNat - (intOf i).toNat)
 case atStart => exact ⟨0, n, rfl, rfl, by omega, ht, Nat.le_refl _, Below.refl _ _⟩
 case round =>
  obtain ⟨a, z, rfl, rfl, ha, hz, hzn, hb⟩ := hrel
  have q2 := q1.later hb q1.lt
  obtain ⟨y0, y1, y2⟩ := q2.cell
  have lt2 := q2.lt
  clear q2
  by_cases hlt : a < z
  · go_upto_region 5 with fail
    obtain ⟨h, hh⟩ : ∃ h : Nat, ((a : Int) + z) / 2 = h := ⟨((a + z) / 2 : Nat), by omega⟩
    have h3 : a ≤ h := by omega
    have h4 : h < z := by omega
    rw [hh]
    clear hh
    obtain ⟨g', rfl, hg', hcs⟩ := (HS.out.later hb).row (by have := (show h < l.length from (by rw [HN.out]; omega)); omega)
    obtain ⟨s, hs1, hs2⟩ := hcs h (by rw [HN.out]; omega)
    have cc := fun ex => behind_any s (l.getD h []) c (wr.more ex) (hs2.later (World.below_more wr ex)) (HG.out _ (by simp [List.getD, show h < l.length from (by rw [HN.out]; omega)]))
    obtain ⟨sA, sc, rfl, -, -, -⟩ := id hs2
    generalize (l.getD h []).length = m at *
    clear hcs hs2
    unfold ceVal at cc
    by_cases hht : h < t
    · have hr := H1.out h hht
      rw [show (if 0 < cmpCe ((l.getD h []).headD Ce.zero) c then (1 : Int) else -1) = -1 from if_neg (by omega)] at cc
      clear hr
      have CC := Lib.hid cc
      clear cc
      refine wp_region_more (by kernel_rfl) (by kernel_rfl) ?_
      repeat (go_big_quiet_step (fail))
      go_big_quiet_step (exact Calls.more (CC.out _))
      repeat (go_big_quiet_step (fail))
      refine wpQuiet_nil ?_
      rintro _ ⟨ex, rfl⟩
      have b2 := World.below_more wr ex
      clear CC
      generalize wr.more ex = w2 at *
      have B := btP hb b2
      go_wp2_with fail
      go_roundw
      case rel => exact ⟨h + 1, z, by go_num, rfl, by omega, by omega, by omega, B⟩
      case measure => simp [intOf]; omega
    · have hr := H2.out h (by omega) (by rw [HN.out]; omega)
      rw [show (if 0 < cmpCe ((l.getD h []).headD Ce.zero) c then (1 : Int) else -1) = 1 from if_pos hr] at cc
      clear hr
      have CC := Lib.hid cc
      clear cc
      refine wp_region_more (by kernel_rfl) (by kernel_rfl) ?_
      repeat (go_big_quiet_step (fail))
      go_big_quiet_step (exact Calls.more (CC.out _))
      repeat (go_big_quiet_step (fail))
      refine wpQuiet_nil ?_
      rintro _ ⟨ex, rfl⟩
      have b2 := World.below_more wr ex
      clear CC
      generalize wr.more ex = w2 at *
      have B := btP hb b2
      go_wp2_with fail
      go_roundw
      case rel => exact ⟨a, h, rfl, rfl, by omega, by omega, by omega, B⟩
      case measure => simp [intOf]; omega
  · obtain rfl : a = t := by omega
    obtain rfl : z = a := by omega
    go_upto_region 8 with fail
    by_cases hzt : z < n
    · have hr := H2.out z (Nat.le_refl _) (by rw [HN.out]; exact hzt)
      obtain ⟨g', rfl, hg', hcs⟩ := (HS.out.later hb).row (by have := (show z < l.length from (by rw [HN.out]; exact hzt)); omega)
      obtain ⟨s, hs1, hs2⟩ := hcs z (by rw [HN.out]; exact hzt)
      have cc := fun ex => behind_any s (l.getD z []) c (wr.more ex) (hs2.later (World.below_more wr ex)) (HG.out _ (by simp [List.getD, show z < l.length from (by rw [HN.out]; exact hzt)]))
      obtain ⟨sA, sc, rfl, -, -, -⟩ := id hs2
      generalize (l.getD z []).length = m at *
      clear hcs hs2
      unfold ceVal at cc
      rw [show (if 0 < cmpCe ((l.getD z []).headD Ce.zero) c then (1 : Int) else -1) = 1 from if_pos hr] at cc
      clear hr
      have CC := Lib.hid cc
      clear cc
      refine wp_region_more (by kernel_rfl) (by kernel_rfl) ?_
      repeat (go_big_quiet_step (fail))
      go_big_quiet_step (exact Calls.more (CC.out _))
      repeat (go_big_quiet_step (fail))
      refine wpQuiet_nil ?_
      rintro _ ⟨ex, rfl⟩
      have b2 := World.below_more wr ex
      clear CC
      generalize wr.more ex = w2 at *
      have B := btP hb b2
      go_wp2_with fail
      go_ret2
      exact ⟨rfl, (b1.trans (B.mono (by rw [HG0.out]; exact hsz)))⟩
    · have e1 : decide (z < n) = false := decide_eq_false hzt
      refine wp_region_more (by kernel_rfl) (by kernel_rfl) ?_
      repeat (go_big_quiet_step (fail))
      refine wpQuiet_nil ?_
      rintro _ ⟨ex, rfl⟩
      have b2 := World.below_more wr ex
      generalize wr.more ex = w2 at *
      have B := btP hb b2
      go_wp2_with fail
      go_ret2
      exact ⟨rfl, (b1.trans (B.mono (by rw [HG0.out]; exact hsz)))⟩
set_option maxHeartbeats 4000000 in
theorem searchC_any (s : Value) (l : List Ce) (c : Ce) (BB : Bool) (t : Nat) (w : World) (hs : SlAt s l w) (hbig : l.length ≤ 1000000) (ht : t ≤ l.length)
 (h1 : ∀ i, i < t → cmpCe (l.getD i Ce.zero) c < 0) (h2 : ∀ i, t ≤ i → i < l.length → 0 ≤ cmpCe (l.getD i Ce.zero) c) (hB : BB = decide (t < l.length ∧ cmpCe (l.getD t Ce.zero) c = 0)) :
 Calls Tryz.prog 84 #[s, ceVal c, .func (.func 46) #[] #[]] w fun e w' => e = .returned (.tuple #[.int .i64 t, .bool BB]) ∧ Below w.heap.size w w' := by
 obtain ⟨A, cap, rfl, g1, g2, -⟩ := id hs
 unfold maxLen at g2
 have HS := Lib.hid hs
 have H1 := Lib.hid h1
 have H2 := Lib.hid h2
 have HB := Lib.hid hB
 obtain ⟨n, hn⟩ : ∃ n, l.length = n := ⟨_, rfl⟩
 have HN := Lib.hid hn
 rw [hn] at g1 hbig ht HS ⊢
 clear hs h1 h2 hn hB
 have q1 := CeAt.boxed c w
 have b1 := (Below.refl w.heap.size w).alloc (Nat.le_refl _) (boxC c)
 have HS := Lib.hid (HS.out.later b1)
 unfold boxC at q1 b1 HS
 unfold ceVal
 go_enter Tryz.func84, Tryz.ntmps84
 go_wp2_with fail
 generalize w.alloc _ = w1 at *
 have hsz := Nat.le_of_lt q1.lt
 generalize hg0 : w.heap.size = g at q1 hsz ⊢
 have HG0 := Lib.hid hg0
 clear hg0
 go_loopw [9, 10] (fun i j wr => ∃ (a z : Nat), i = .int .i64 a ∧ j = .int .i64 z ∧ a ≤ t ∧ t ≤ z ∧ z ≤ n ∧ Below w1.heap.size w1 wr) (fun i j _ => (intOf j).toNat - (intOf i).toNat)
 case atStart => exact ⟨0, n, rfl, rfl, by omega, ht, Nat.le_refl _, Below.refl _ _⟩
 case round =>
  obtain ⟨a, z, rfl, rfl, ha, hz, hzn, hb⟩ := hrel
  have q2 := q1.later hb q1.lt
  obtain ⟨y0, y1, y2⟩ := q2.cell
  have lt2 := q2.lt
  clear q2
  by_cases hlt : a < z
  · go_upto_region 5 with fail
    obtain ⟨h, hh⟩ : ∃ h : Nat, ((a : Int) + z) / 2 = h := ⟨((a + z) / 2 : Nat), by omega⟩
    have h3 : a ≤ h := by omega
    have h4 : h < z := by omega
    rw [hh]
    clear hh
    obtain ⟨b', o', rfl, hrow⟩ := (HS.out.later hb).row (by have := (show h < l.length from (by rw [HN.out]; omega)); omega)
    obtain ⟨x0, x1, x2⟩ := hrow.cells (i := h) (by rw [HN.out]; omega)
    have hlb := hrow.1
    have cc := fun ex => compare_any (l.getD h Ce.zero) c (wr.more ex)
    clear hrow
    unfold ceVal at cc
    by_cases hht : h < t
    · have hr := H1.out h hht
      obtain ⟨d, hd⟩ : ∃ d, l.getD h Ce.zero = d := ⟨_, rfl⟩
      rw [hd] at x0 x1 x2 cc hr
      obtain ⟨r, hr0⟩ : ∃ r, cmpCe d c = r := ⟨_, rfl⟩
      rw [hr0] at cc hr
      have e1 : decide (r < 0) = true := decide_eq_true (by omega)
      clear hd hr0 hr
      have CC := Lib.hid cc
      clear cc
      refine wp_region_more (by kernel_rfl) (by kernel_rfl) ?_
      repeat (go_big_quiet_step (fail))
      go_big_quiet_step (exact Calls.more (CC.out _))
      repeat (go_big_quiet_step (fail))
      refine wpQuiet_nil ?_
      rintro _ ⟨ex, rfl⟩
      have b2 := World.below_more wr ex
      clear CC
      generalize wr.more ex = w2 at *
      have B := btP hb b2
      go_wp2_with fail
      go_roundw
      case rel => exact ⟨h + 1, z, by go_num, rfl, by omega, by omega, by omega, B⟩
      case measure => simp [intOf]; omega
    · have hr := H2.out h (by omega) (by rw [HN.out]; omega)
      obtain ⟨d, hd⟩ : ∃ d, l.getD h Ce.zero = d := ⟨_, rfl⟩
      rw [hd] at x0 x1 x2 cc hr
      obtain ⟨r, hr0⟩ : ∃ r, cmpCe d c = r := ⟨_, rfl⟩
      rw [hr0] at cc hr
      have e1 : decide (r < 0) = false := decide_eq_false (by omega)
      clear hd hr0 hr
      have CC := Lib.hid cc
      clear cc
      refine wp_region_more (by kernel_rfl) (by kernel_rfl) ?_
      repeat (go_big_quiet_step (fail))
      go_big_quiet_step (exact Calls.more (CC.out _))
      repeat (go_big_quiet_step (fail))
      refine wpQuiet_nil ?_
      rintro _ ⟨ex, rfl⟩
      have b2 := World.below_more wr ex
      clear CC
      generalize wr.more ex = w2 at *
      have B := btP hb b2
      go_wp2_with fail
      go_roundw
      case rel => exact ⟨a, h, rfl, rfl, by omega, by omega, by omega, B⟩
      case measure => simp [intOf]; omega
  · obtain rfl : a = t := by omega
    obtain rfl : z = a := by omega
    go_upto_region 8 with fail
    by_cases hzt : z < n
    · have hr := H2.out z (Nat.le_refl _) (by rw [HN.out]; exact hzt)
      obtain ⟨b', o', rfl, hrow⟩ := (HS.out.later hb).row (by have := (show z < l.length from (by rw [HN.out]; exact hzt)); omega)
      obtain ⟨x0, x1, x2⟩ := hrow.cells (i := z) (by rw [HN.out]; exact hzt)
      have hlb := hrow.1
      have cc := fun ex => compare_any (l.getD z Ce.zero) c (wr.more ex)
      clear hrow
      unfold ceVal at cc
      obtain ⟨d, hd⟩ : ∃ d, l.getD z Ce.zero = d := ⟨_, rfl⟩
      rw [hd] at x0 x1 x2 cc hr
      obtain ⟨r, hr0⟩ : ∃ r, cmpCe d c = r := ⟨_, rfl⟩
      rw [hr0] at cc hr
      have HB2 := Lib.hid (show (r == 0) = BB by rw [HB.out, hd, hr0]; rcases Decidable.em (r = 0) with h0 | h0 <;> simp [h0, HN.out, hzt])
      clear hd hr0 hr
      have CC := Lib.hid cc
      clear cc
      refine wp_region_more (by kernel_rfl) (by kernel_rfl) ?_
      repeat (go_big_quiet_step (fail))
      go_big_quiet_step (exact Calls.more (CC.out _))
      repeat (go_big_quiet_step (fail))
      refine wpQuiet_nil ?_
      rintro _ ⟨ex, rfl⟩
      have b2 := World.below_more wr ex
      clear CC
      generalize wr.more ex = w2 at *
      have B := btP hb b2
      go_wp2_with fail
      go_ret2
      exact ⟨ret2 rfl (by first | (rw [← HB2.out]; rfl) | (rw [← HBn.out]; rfl)), (b1.trans (B.mono (by rw [HG0.out]; exact hsz)))⟩
    · have e1 : decide (z < n) = false := decide_eq_false hzt
      have HBn := Lib.hid (show false = BB by rw [HB.out, HN.out]; simp [hzt])
      refine wp_region_more (by kernel_rfl) (by kernel_rfl) ?_
      repeat (go_big_quiet_step (fail))
      refine wpQuiet_nil ?_
      rintro _ ⟨ex, rfl⟩
      have b2 := World.below_more wr ex
      generalize wr.more ex = w2 at *
      have B := btP hb b2
      go_wp2_with fail
      go_ret2
      exact ⟨ret2 rfl (by first | (rw [← HB2.out]; rfl) | (rw [← HBn.out]; rfl)), (b1.trans (B.mono (by rw [HG0.out]; exact hsz)))⟩
set_option maxHeartbeats 4000000 in
theorem searchK_any (s : Value) (l : List Ce) (key : List UInt8) (t : Nat) (w : World) (hs : SlAt s l w) (hbig : l.length ≤ 1000000) (ht : t ≤ l.length)
 (h1 : ∀ i, i < t → Op.bytesLess (l.getD i Ce.zero).k key = true) (h2 : ∀ i, t ≤ i → i < l.length → Op.bytesLess (l.getD i Ce.zero).k key = false) :
 Calls Tryz.prog 124 #[s, .string ⟨key.toArray⟩, .func (.func 125) #[] #[]] w fun e w' => e = .returned (.tuple #[.int .i64 t, .bool false]) ∧ Below w.heap.size w w' := by
 obtain ⟨A, cap, rfl, g1, g2, -⟩ := id hs
 unfold maxLen at g2
 have HS := Lib.hid hs
 have H1 := Lib.hid h1
 have H2 := Lib.hid h2
 obtain ⟨n, hn⟩ : ∃ n, l.length = n := ⟨_, rfl⟩
 have HN := Lib.hid hn
 rw [hn] at g1 hbig ht HS ⊢
 clear hs h1 h2 hn 
 have b1 := Below.refl w.heap.size w
 go_enter Tryz.func124, Tryz.ntmps124
 go_wp2_with fail
 have hsz := Nat.le_refl w.heap.size
 go_loopw [9, 10] (fun i j wr => ∃ (a z : Nat), i = .int .i64 a ∧ j = .int .i64 z ∧ a ≤ t ∧ t ≤ z ∧ z ≤ n ∧ Below w.heap.size w wr) (fun i j _ => (intOf j).toNat - (intOf i).toNat)
 case atStart => exact ⟨0, n, rfl, rfl, by omega, ht, Nat.le_refl _, Below.refl _ _⟩
 case round =>
  obtain ⟨a, z, rfl, rfl, ha, hz, hzn, hb⟩ := hrel
  by_cases hlt : a < z
  · go_upto_region 5 with fail
    obtain ⟨h, hh⟩ : ∃ h : Nat, ((a : Int) + z) / 2 = h := ⟨((a + z) / 2 : Nat), by omega⟩
    have h3 : a ≤ h := by omega
    have h4 : h < z := by omega
    rw [hh]
    clear hh
    obtain ⟨b', o', rfl, hrow⟩ := (HS.out.later hb).row (by have := (show h < l.length from (by rw [HN.out]; omega)); omega)
    obtain ⟨x0, x1, x2⟩ := hrow.cells (i := h) (by rw [HN.out]; omega)
    have hlb := hrow.1
    have cc := fun W => keyCmp_any (l.getD h Ce.zero) key W
    clear hrow
    unfold ceVal at cc
    by_cases hht : h < t
    · have hr := H1.out h hht
      rw [show keyCmp (l.getD h Ce.zero) key = -1 from by unfold keyCmp; rw [hr]; rfl] at cc
      generalize l.getD h Ce.zero = d at *
      clear hr
      have CC := Lib.hid cc
      clear cc
      go_wp2_with fail
      refine (CC.out _).mono ?_
      rintro e w2 ⟨rfl, b2⟩
      have B := btP hb b2
      clear CC
      go_wp2_with fail
      go_roundw
      case rel => exact ⟨h + 1, z, by go_num, rfl, by omega, by omega, by omega, B⟩
      case measure => simp [intOf]; omega
    · have hr := H2.out h (by omega) (by rw [HN.out]; omega)
      rw [show keyCmp (l.getD h Ce.zero) key = 1 from by unfold keyCmp; rw [hr]; rfl] at cc
      generalize l.getD h Ce.zero = d at *
      clear hr
      have CC := Lib.hid cc
      clear cc
      go_wp2_with fail
      refine (CC.out _).mono ?_
      rintro e w2 ⟨rfl, b2⟩
      have B := btP hb b2
      clear CC
      go_wp2_with fail
      go_roundw
      case rel => exact ⟨a, h, rfl, rfl, by omega, by omega, by omega, B⟩
      case measure => simp [intOf]; omega
  · obtain rfl : a = t := by omega
    obtain rfl : z = a := by omega
    go_upto_region 8 with fail
    by_cases hzt : z < n
    · have hr := H2.out z (Nat.le_refl _) (by rw [HN.out]; exact hzt)
      obtain ⟨b', o', rfl, hrow⟩ := (HS.out.later hb).row (by have := (show z < l.length from (by rw [HN.out]; exact hzt)); omega)
      obtain ⟨x0, x1, x2⟩ := hrow.cells (i := z) (by rw [HN.out]; exact hzt)
      have hlb := hrow.1
      have cc := fun W => keyCmp_any (l.getD z Ce.zero) key W
      clear hrow
      unfold ceVal at cc
      rw [show keyCmp (l.getD z Ce.zero) key = 1 from by unfold keyCmp; rw [hr]; rfl] at cc
      generalize l.getD z Ce.zero = d at *
      clear hr
      have CC := Lib.hid cc
      clear cc
      go_wp2_with fail
      refine (CC.out _).mono ?_
      rintro e w2 ⟨rfl, b2⟩
      have B := btP hb b2
      clear CC
      go_wp2_with fail
      go_ret2
      exact ⟨rfl, B⟩
    · have e1 : decide (z < n) = false := decide_eq_false hzt
      have B := hb
      go_wp2_with fail
      go_ret2
      exact ⟨rfl, B⟩
end Go.Proofs.YtoglloafpnopaaaGreat
namespace Spoor
open Go
def keyPos (l : List Ce) (key : List UInt8) : Nat := (l.takeWhile fun c => Op.bytesLess c.k key).length
theorem keyPos_le (l : List Ce) (key : List UInt8) : keyPos l key ≤ l.length := (List.takeWhile_sublist _).length_le
theorem keyPos_facts : ∀ {l : List Ce} (key : List UInt8), Rise l → (∀ i, i < keyPos l key → Op.bytesLess (l.getD i Ce.zero).k key = true) ∧ ∀ i, keyPos l key ≤ i → i < l.length → Op.bytesLess (l.getD i Ce.zero).k key = false
 | [], key, _ => ⟨fun i hi => by simp [keyPos] at hi, fun i _ hi => by simp at hi⟩
 | c :: l, key, h => by
   have h2 := List.pairwise_cons.1 h
   have ih := keyPos_facts key h2.2
   cases e : Op.bytesLess c.k key with
   | true =>
     have hk : keyPos (c :: l) key = keyPos l key + 1 := by unfold keyPos; rw [List.takeWhile_cons, e]; rfl
     rw [hk]
     refine ⟨fun i hi => ?_, fun i hi hl => ?_⟩
     · cases i with
       | zero => exact e
       | succ i => exact ih.1 i (by omega)
     · cases i with
       | zero => omega
       | succ i => exact ih.2 i (by omega) (by simpa using hl)
   | false =>
     have hk : keyPos (c :: l) key = 0 := by unfold keyPos; rw [List.takeWhile_cons, e]; rfl
     rw [hk]
     refine ⟨fun i hi => by omega, fun i hi hl => ?_⟩
     cases i with
     | zero => exact e
     | succ i =>
       have hm : (c :: l).getD (i + 1) Ce.zero ∈ l := by
        have : i < l.length := by simpa using hl
        simp [List.getD, this]
       cases f : Op.bytesLess ((c :: l).getD (i + 1) Ce.zero).k key with
       | false => rfl
       | true => rw [key_mono (h2.1 _ hm) f] at e; cases e
def endPos (l : List Ce) (from' to' : List UInt8) : Nat := if to' = [] then l.length else max (keyPos l from') (keyPos l to')
theorem endPos_facts {l : List Ce} (from' to' : List UInt8) (h : Rise l) : keyPos l from' ≤ endPos l from' to' ∧ endPos l from' to' ≤ l.length ∧ rangeC l from' to' = (l.drop (keyPos l from')).take (endPos l from' to' - keyPos l from') := by
 have h1 := keyPos_le l from'
 have h2 := keyPos_le l to'
 have f1 := keyPos_facts from' h
 have f2 := keyPos_facts to' h
 have e : keyPos l from' ≤ endPos l from' to' ∧ endPos l from' to' ≤ l.length := by
  unfold endPos
  split <;> omega
 refine ⟨e.1, e.2, ?_⟩
 refine rangeC_cut f1.1 f1.2 ?_ e.1 e.2
 unfold endPos
 by_cases ht : to' = []
 · left; exact ⟨ht, if_pos ht⟩
 · right
   rw [if_neg ht]
   refine ⟨ht, fun i h3 h4 h5 => f2.1 i (by omega), fun i h3 h4 => f2.2 i (by omega) h4⟩
end Spoor
namespace Go.Proofs.YtoglloafpnopaaaGreat
set_option maxRecDepth 16000
open Go.RowKit Spoor
theorem at_any (s : Value) (l : List Ce) (key : List UInt8) (w : World) (hs : SlAt s l w) (hr : Rise l) (hbig : l.length ≤ 1000000) :
 Calls Tryz.prog 95 #[s, .string ⟨key.toArray⟩] w fun e w' => e = .returned (.int .i64 (keyPos l key)) ∧ Below w.heap.size w w' := by
 have f := keyPos_facts key hr
 have cc := searchK_any s l key (keyPos l key) w hs hbig (keyPos_le l key) f.1 f.2
 obtain ⟨A, cap, rfl, -, -, -⟩ := id hs
 generalize keyPos l key = t at *
 have CC := Lib.hid cc
 clear cc f hs hr
 generalize l.length = n at *
 go_enter Tryz.func95, Tryz.ntmps95
 go_wp2_with fail
 refine CC.out.mono ?_
 rintro e w1 ⟨rfl, hb⟩
 go_wp2_with fail
 go_ret
 exact ⟨rfl, hb⟩
theorem stretch_any (s : Value) (l : List Ce) (from' to' : List UInt8) (w : World) (hs : SlAt s l w) (hr : Rise l) (hbig : l.length ≤ 1000000) :
 Calls Tryz.prog 76 #[s, .string ⟨from'.toArray⟩, .string ⟨to'.toArray⟩] w fun e w' => e = .returned (.tuple #[.int .i64 (keyPos l from'), .int .i64 (endPos l from' to')]) ∧ Below w.heap.size w w' := by
 have c1 := at_any s l from' w hs hr hbig
 have c2 := fun W (h : Below w.heap.size w W) => at_any s l to' W (hs.later h) hr hbig
 have b1 := keyPos_le l from'
 have b2 := keyPos_le l to'
 obtain ⟨E, hE⟩ : ∃ E, endPos l from' to' = E := ⟨_, rfl⟩
 have hE2 := hE
 unfold endPos at hE2
 rw [hE]
 obtain ⟨A, cap, rfl, -, -, -⟩ := id hs
 generalize keyPos l from' = p at *
 generalize keyPos l to' = q at *
 generalize hn : l.length = n at *
 have C1 := Lib.hid c1
 have C2 := Lib.hid c2
 have HE := Lib.hid hE2
 clear c1 c2 hE hE2 hs hr
 by_cases ht : to' = []
 · subst ht
   obtain rfl : E = n := by rw [← HE.out, if_pos rfl]
   clear HE
   go_enter Tryz.func76, Tryz.ntmps76
   go_wp2_with fail
   refine C1.out.mono ?_
   rintro e w1 ⟨rfl, hb⟩
   go_wp2_with fail
   go_ret2
   exact ⟨rfl, hb⟩
 · have e1 : (to' == ([] : List UInt8)) = false := by simpa using ht
   have hm : max p q = E := by rw [← HE.out, if_neg ht]
   have HM := Lib.hid hm
   clear HE hm
   go_enter Tryz.func76, Tryz.ntmps76
   go_wp2_with fail
   refine C1.out.mono ?_
   rintro e w1 ⟨rfl, hb⟩
   go_wp2_with fail
   refine (C2.out _ hb).mono ?_
   rintro e w2 ⟨rfl, hb2⟩
   go_wp2_with fail
   go_ret2
   exact ⟨ret2 rfl (by have := HM.out; simp; omega), btP hb hb2⟩
def PageAt (v : Value) (l : List Ce) (b : Nat) (w : World) : Prop := ∃ cap cur, v = .slice (some ⟨b, 0, none⟩) l.length cap ∧ l.length ≤ cap ∧ cap ≤ maxLen ∧ w.heap[b]? = some (.cells cur 38 (0, 0)) ∧ cap * 3 ≤ cur.size ∧ cur.toList.take (l.length * 3) = rowOf l
def PagesAt (v : Value) (gs : List (List Ce)) (fs : List Nat) (w : World) : Prop :=
 (v = .slice none 0 0 ∧ gs = [] ∧ fs = []) ∨
 ∃ g cap cur bs, v = .slice (some ⟨g, 0, none⟩) gs.length cap ∧ 0 < gs.length ∧ gs.length ≤ cap ∧ cap ≤ maxLen ∧ w.heap[g]? = some (.cells cur 134 (0, 0)) ∧ cur.size = cap ∧ fs = g :: bs ∧ bs.length = gs.length ∧ bs.Nodup ∧ ∀ i, i < gs.length → ∃ v, cur[i]? = some v ∧ PageAt v (gs.getD i []) (bs.getD i 0) w
def MemAt (p : Nat) (gs : List (List Ce)) (fs : List Nat) (w : World) : Prop := ∃ v fs', fs = p :: fs' ∧ w.heap[p]? = some (.cells #[.bool true, v] 109 (0, 0)) ∧ PagesAt v gs fs' w
def Mem (p : Nat) (L : List Ce) (fs : List Nat) (w : World) : Prop := ∃ gs, MemAt p gs fs w ∧ PagesOk gs ∧ gs.flatten = L
theorem PageAt.row {v : Value} {l : List Ce} {b : Nat} {w : World} (h : PageAt v l b w) : b < w.heap.size ∧ RowAt b 0 l w := by
 obtain ⟨cap, cur, rfl, h1, h2, h3, h4, h5⟩ := h
 have hlt := (Go.ltA h3)
 refine ⟨hlt, hlt, fun i hi j u hj => ?_⟩
 have hj3 : j < 3 := (List.getElem?_eq_some_iff.1 hj).1
 have hr := rowOf_at l i j hi hj3
 rw [hj, ← h5, List.getElem?_take, if_pos (by omega)] at hr
 rw [World.cell?]
 simp only [h3]
 have : (0 + i * 3 + j) = i * 3 + j := by omega
 simp only [this]
 rw [← Array.getElem?_toList, hr]
 rfl
theorem PageAt.sl {v : Value} {l : List Ce} {b : Nat} {w : World} (h : PageAt v l b w) : SlAt v l w := by
 have hr := h.row
 obtain ⟨cap, cur, rfl, h1, h2, -⟩ := h
 exact ⟨_, _, rfl, h1, h2, fun _ => ⟨b, 0, rfl, hr.2⟩⟩
theorem PagesAt.pgs {v : Value} {gs : List (List Ce)} {fs : List Nat} {w : World} (h : PagesAt v gs fs w) : PgsAt v gs w := by
 rcases h with ⟨rfl, rfl, rfl⟩ | ⟨g, cap, cur, bs, rfl, h0, h1, h2, h3, h4, rfl, h5, h6, h7⟩
 · exact ⟨none, 0, rfl, by simp, by unfold maxLen; omega, fun h => by simp at h⟩
 · refine ⟨_, cap, rfl, h1, h2, fun _ => ⟨g, rfl, (Go.ltA h3), fun i hi => ?_⟩⟩
   obtain ⟨v, h8, h9⟩ := h7 i hi
   refine ⟨v, ?_, h9.sl⟩
   rw [World.cell?]
   simp only [h3]
   exact h8
theorem Mem.rise {p : Nat} {L : List Ce} {fs : List Nat} {w : World} (h : Mem p L fs w) : Rise L ∧ ∀ c ∈ L, c.may = true := by
 obtain ⟨gs, _, h2, rfl⟩ := h
 exact ⟨h2.rise, h2.may⟩
theorem flat_many : ∀ {gs : List (List Ce)}, (∀ g ∈ gs, 0 < g.length ∧ g.length ≤ 16) → gs.length ≤ gs.flatten.length
 | [], _ => by simp
 | g :: gs, h => by
   have := flat_many (gs := gs) (fun x hx => h x (by simp [hx]))
   have := (h g (by simp)).1
   rw [List.flatten_cons, List.length_append, List.length_cons]
   omega
theorem info_one {P : Program} {e : TypeId} {z : Value} {s b : Nat} (h : (P.info? e).map (fun i => (i.zero, i.size, i.bytes)) = some (some z, s, b)) : ∃ i, P.info? e = some i ∧ i.zero = some z ∧ i.size = s ∧ i.bytes = b := by
 cases hi : P.info? e with
 | none => rw [hi] at h; simp at h
 | some i =>
   rw [hi] at h
   simp only [Option.map_some, Option.some.injEq, Prod.mk.injEq] at h
   exact ⟨i, rfl, h.1, h.2.1, h.2.2⟩
theorem row_part {b o lo hi : Nat} {l : List Ce} {w : World} (h : RowAt b o l w) (h1 : lo ≤ hi) (h2 : hi ≤ l.length) : ∀ j u, (rowOf ((l.drop lo).take (hi - lo)))[j]? = some u → w.cell? ((⟨b, o + lo * 3, none⟩ : Addr).add j) = some u := by
 intro j u hj
 have hlt := (List.getElem?_eq_some_iff.1 hj).1
 rw [rowOf_length, List.length_take, List.length_drop] at hlt
 have hi3 : j / 3 < hi - lo := by omega
 have hd : j / 3 * 3 + j % 3 = j := by omega
 have hr := rowOf_at ((l.drop lo).take (hi - lo)) (j / 3) (j % 3) (by rw [List.length_take, List.length_drop]; omega) (by omega)
 rw [hd, hj] at hr
 have hg : ((l.drop lo).take (hi - lo)).getD (j / 3) Ce.zero = l.getD (lo + j / 3) Ce.zero := by
  simp [List.getD, List.getElem?_take, hi3, List.getElem?_drop]
 rw [hg] at hr
 have := h.2 (lo + j / 3) (by omega) (j % 3) u hr.symm
 rw [show o + (lo + j / 3) * 3 + j % 3 = o + lo * 3 + j by omega] at this
 rw [Addr.add_lit]
 exact this
theorem own_lat {w w' : World} {base n : Nat} {v : Value} {xs : List Value} {e : TypeId} {sz : Nat} (h : w.ownsRow base e sz v n xs) (hb : Below w.heap.size w w') : w'.ownsRow base e sz v n xs := by
 refine ⟨h.1, ?_⟩
 rcases h.2 with ⟨h1, h2⟩ | ⟨g1, cap1, cur1, h1, h2, hg1, h3⟩
 · exact .inl ⟨h1, h2⟩
 · exact .inr ⟨g1, cap1, cur1, h1, h2, (hb.block g1 (Go.ltA hg1)).trans hg1, h3⟩
theorem own_slice {w : World} {base sz n : Nat} {e : TypeId} {v : Value} {xs : List Value} (h : w.ownsRow base e sz v n xs) : ∃ A cap, v = .slice A n cap := by
 rcases h.2 with ⟨rfl, rfl⟩ | ⟨g, cap, cur, rfl, _⟩
 · exact ⟨none, 0, rfl⟩
 · exact ⟨_, cap, rfl⟩
theorem Mem.cells {p : Nat} {v : Value} {w : World} (h : w.heap[p]? = some (.cells #[.bool true, v] 109 (0, 0))) : w.cell? ⟨p, 0, none⟩ = some (.bool true) ∧ w.cell? ⟨p, 1, none⟩ = some v ∧ w.frozen? ⟨p, 1, none⟩ = false ∧ p < w.heap.size := by
 refine ⟨by simp [World.cell?, h], by simp [World.cell?, h], by simp [World.frozen?, h], (Go.ltA h)⟩
theorem lenM_any (p : Nat) (L : List Ce) (fs : List Nat) (w : World) (M : Mem p L fs w) (hbig : L.length ≤ 100000) :
 Calls Tryz.prog 170 #[.pointer (some ⟨p, 0, none⟩)] w fun e w' => e = .returned (.int .i64 L.length) ∧ Below w.heap.size w w' := by
 obtain ⟨gs, ⟨v, fs', -, hp, hP⟩, ok, hL⟩ := M
 obtain ⟨c0, c1, -, hlt⟩ := Mem.cells hp
 have hpg := hP.pgs
 have hmany := flat_many ok.some
 obtain ⟨A, cap, rfl, g1, g2, -⟩ := id hpg
 unfold maxLen at g2
 have HL : ∀ k, (gs.take k).flatten.length ≤ L.length := fun k => by
  rw [← hL]
  conv => rhs; rw [← List.take_append_drop k gs, List.flatten_append, List.length_append]
  omega
 have HL := Lib.hid HL
 have HE := Lib.hid hL
 rw [hL] at hmany
 have HP := Lib.hid hpg
 have hs := ok.some
 have HS := Lib.hid hs
 obtain ⟨n, hn⟩ : ∃ n, gs.length = n := ⟨_, rfl⟩
 obtain ⟨N, hN⟩ : ∃ N, L.length = N := ⟨_, rfl⟩
 have HN := Lib.hid hn
 have HNN := Lib.hid hN
 rw [hn] at g1 hmany HP c1
 rw [hN] at hbig hmany HL
 clear hp hP hpg ok hL hs hn
 go_enter Tryz.func170, Tryz.ntmps170
 go_wp2_with fail
 go_loopw [3, 13] (fun s i wr => ∃ k : Nat, i = .int .i64 k ∧ k ≤ n ∧ s = .int .i64 ((gs.take k).flatten.length : Nat) ∧ Below w.heap.size w wr) (fun _ i _ => n - (intOf i).toNat)
 case atStart => exact ⟨0, rfl, by omega, by simp, Below.refl _ _⟩
 case round =>
  obtain ⟨k, rfl, hk, rfl, hb⟩ := hrel
  by_cases hlt2 : k < n
  · obtain ⟨g, rfl, hg, hcs⟩ := (HP.out.later hb).row (by rw [HN.out]; omega)
    obtain ⟨s, hs1, hs2⟩ := hcs k (by rw [HN.out]; exact hlt2)
    obtain ⟨sA, sc, rfl, -, -, -⟩ := id hs2
    have hnext : (gs.take (k + 1)).flatten.length = (gs.take k).flatten.length + (gs.getD k []).length := by
     rw [List.take_succ_eq_append_getElem (by rw [HN.out]; exact hlt2), List.flatten_append, List.length_append]
     simp [List.getD, show k < gs.length by rw [HN.out]; exact hlt2]
    have hl1 := HL.out (k + 1)
    rw [hnext] at hl1
    have HX := Lib.hid hnext
    generalize (gs.getD k []).length = m at *
    generalize (gs.take k).flatten.length = a at *
    clear hcs hs2 hnext
    go_wp2_with fail
    go_roundw
    case rel => exact ⟨k + 1, by go_num, by omega, by rw [HX.out]; go_num, hb⟩
    case measure => simp [intOf]; omega
  · obtain rfl : k = n := by omega
    have hfin : (gs.take k).flatten.length = N := by rw [List.take_of_length_le (by rw [HN.out]; exact Nat.le_refl _), HE.out, HNN.out]
    rw [hfin]
    go_wp2_with fail
    go_ret
    exact ⟨ret1 (by rw [HNN.out]; rfl), hb⟩
set_option maxHeartbeats 4000000 in
theorem rangeM_any (p : Nat) (L : List Ce) (fs : List Nat) (from' to' : List UInt8) (w : World) (M : Mem p L fs w) (hbig : L.length ≤ 100000) :
 Calls Tryz.prog 49 #[.pointer (some ⟨p, 0, none⟩), .string ⟨from'.toArray⟩, .string ⟨to'.toArray⟩] w fun e w' => Below w.heap.size w w' ∧ ∃ v, e = .returned v ∧ w'.ownsRow w.heap.size 38 3 v (rangeC L from' to').length (rowOf (rangeC L from' to')) := by
 obtain ⟨gs, ⟨v, fs', -, hp, hP⟩, ok, hL⟩ := M
 obtain ⟨c0, c1, -, hlt⟩ := Mem.cells hp
 have hpg := hP.pgs
 have hmany := flat_many ok.some
 obtain ⟨A, cap, rfl, g1, g2, -⟩ := id hpg
 unfold maxLen at g2
 rw [hL] at hmany
 have hrise := ok.rise
 rw [hL] at hrise
 have hflat : ∀ k, k ≤ gs.length → (rangeC (gs.take k).flatten from' to').length ≤ 100000 := fun k hk => by
  have h1 := List.length_filter_le (within from' to') (gs.take k).flatten
  have h2 : (gs.take k).flatten.length ≤ L.length := by
   rw [← hL]
   conv => rhs; rw [← List.take_append_drop k gs, List.flatten_append, List.length_append]
   omega
  unfold rangeC
  omega
 have hstep : ∀ k, k < gs.length → rangeC (gs.take (k + 1)).flatten from' to' = rangeC (gs.take k).flatten from' to' ++ rangeC (gs.getD k []) from' to' := fun k hk => by
  rw [List.take_succ_eq_append_getElem hk, List.flatten_append, rangeC_app]
  simp [List.getD, hk]
 have hpage : ∀ k, k < gs.length → Rise (gs.getD k []) ∧ (gs.getD k []).length ≤ 16 ∧ 0 < (gs.getD k []).length := fun k hk => by
  have hr := ok.rise
  rw [flat_split hk] at hr
  exact ⟨(rise_app.1 (rise_app.1 hr).2.1).1, (ok.some _ (getD_page hk)).2, (ok.some _ (getD_page hk)).1⟩
 have HF := Lib.hid hflat
 have HT := Lib.hid hstep
 have HG := Lib.hid hpage
 have HE := Lib.hid hL
 have HP := Lib.hid hpg
 obtain ⟨n, hn⟩ : ∃ n, gs.length = n := ⟨_, rfl⟩
 have HN := Lib.hid hn
 rw [hn] at g1 hmany HP c1
 clear hp hP hpg ok hL hn hflat hstep hpage hrise
 obtain ⟨j0, gi, gz0, gz1, gz2⟩ := info_one info_ce
 go_enter Tryz.func49, Tryz.ntmps49
 go_wp2_with fail
 go_loopw [7, 19] (fun o i wr => ∃ (k m : Nat) (xs : List Value), i = .int .i64 k ∧ k ≤ n ∧ Hid (m = (rangeC (gs.take k).flatten from' to').length) ∧ Hid (xs = rowOf (rangeC (gs.take k).flatten from' to')) ∧ wr.ownsRow w.heap.size 38 3 o m xs ∧ Below w.heap.size w wr) (fun _ i _ => n - (intOf i).toNat)
 case atStart => exact ⟨0, 0, [], rfl, by omega, Lib.hid (by simp [rangeC]), Lib.hid (by simp [rangeC, rowOf]), World.ownsRow_nil _ _ _ _, Below.refl _ _⟩
 case round =>
  obtain ⟨k, m, xs, rfl, hk, HM, HX, hown, hb⟩ := hrel
  by_cases hlt2 : k < n
  · have hkl : k < gs.length := by rw [HN.out]; exact hlt2
    obtain ⟨g, rfl, hg, hcs⟩ := (HP.out.later hb).row (by omega)
    obtain ⟨s, hs1, hs2⟩ := hcs k hkl
    have hnext := HT.out k hkl
    obtain ⟨q1, q2, q3⟩ := HG.out k hkl
    have hf2 := HF.out (k + 1) hkl
    obtain ⟨sA, sc, rfl, s1, s2, -⟩ := id hs2
    unfold maxLen at s2
    obtain ⟨b, oo, rfl, hrow⟩ := hs2.row q3
    have cc := stretch_any _ _ from' to' wr hs2 q1 (by omega)
    obtain ⟨f1, f2, f3⟩ := endPos_facts from' to' q1
    rw [f3] at hnext
    rw [hnext, List.length_append, List.length_take, List.length_drop, ← HM.out] at hf2
    have HNX := Lib.hid hnext
    have hsrc := row_part hrow f1 f2
    have hlen : (rowOf (((gs.getD k []).drop (keyPos (gs.getD k []) from')).take (endPos (gs.getD k []) from' to' - keyPos (gs.getD k []) from'))).length = (endPos (gs.getD k []) from' to' - keyPos (gs.getD k []) from') * 3 := by
     rw [rowOf_length, List.length_take, List.length_drop]; omega
    have hone := rowOf_one (((gs.getD k []).drop (keyPos (gs.getD k []) from')).take (endPos (gs.getD k []) from' to' - keyPos (gs.getD k []) from'))
    have hnl : ((gs.take (k + 1)).flatten.length) = ((gs.take (k + 1)).flatten.length) := rfl
    have HML : Hid (m + (endPos (gs.getD k []) from' to' - keyPos (gs.getD k []) from') = (rangeC (gs.take (k + 1)).flatten from' to').length) := Lib.hid (by
     rw [hnext, List.length_append, List.length_take, List.length_drop, ← HM.out]; omega)
    have HXL : Hid (xs ++ rowOf (((gs.getD k []).drop (keyPos (gs.getD k []) from')).take (endPos (gs.getD k []) from' to' - keyPos (gs.getD k []) from')) = rowOf (rangeC (gs.take (k + 1)).flatten from' to')) := Lib.hid (by
     rw [hnext, HX.out]; simp [rowOf])
    generalize rowOf (((gs.getD k []).drop (keyPos (gs.getD k []) from')).take (endPos (gs.getD k []) from' to' - keyPos (gs.getD k []) from')) = news at *
    generalize keyPos (gs.getD k []) from' = a at *
    generalize endPos (gs.getD k []) from' to' = z at *
    generalize (gs.getD k []).length = N at *
    have CC := Lib.hid cc
    have hmz : m + (z - a) ≤ 100000 := by omega
    clear cc hs2 hrow hcs hnext f3 hnl hf2 HNX q1 hkl
    have HSRC := Lib.hid hsrc
    have HLEN := Lib.hid hlen
    have HONE := Lib.hid hone
    clear hsrc hlen hone HM HX
    by_cases hac : a < sc
    · go_wp2_with fail
      refine CC.out.mono ?_
      rintro e w1 ⟨rfl, hb1⟩
      have B := btP hb hb1
      have own1 := own_lat hown hb1
      have S1 : Hid (0 < z - a → ∃ ad, (some ⟨b, oo + a * 3, none⟩ : Option Addr) = some ad ∧ ∀ j u, news[j]? = some u → w1.cell? (ad.add j) = some u) := Lib.hid (fun _ => ⟨_, rfl, fun j u hj => by
       have := HSRC.out j u hj
       rw [Addr.add_lit] at this ⊢
       rw [hb1.cell (World.block_lt_of_cell? _ _ this)]
       exact this⟩)
      have hB := B.size
      clear CC hown hb1
      go_wp2_with (at_builtin; refine wpList_append_every2 _ rfl _ _ 22 134 rfl w.heap.size 38 38 j0 (.agg #[.string ⟨#[]⟩, .int .i64 0, .string ⟨#[]⟩]) 3 40 Tryz.underlying22 Tryz.underlying134 gi gz0 gz1 gz2 rfl (by decide) _ m xs rfl own1 _ (z - a) _ news rfl HLEN.out S1.out HONE.out (by unfold maxLen; omega) (by omega) hB ?_)
      intro v' w2 own2 gr2
      obtain ⟨vA, vc, rfl⟩ := own_slice own2
      have B2 := B.grown gr2 hB (fun j hj => (own1.lt j hj).1)
      clear own1 gr2 S1
      go_wp2_with fail
      go_roundw
      case rel => exact ⟨k + 1, m + (z - a), _, by go_num, by omega, HML, HXL, own2, B2⟩
      case measure => simp [intOf]; omega
    · obtain rfl : a = sc := by omega
      obtain rfl : z = a := by omega
      go_wp2_with fail
      refine CC.out.mono ?_
      rintro e w1 ⟨rfl, hb1⟩
      have B := btP hb hb1
      have own1 := own_lat hown hb1
      have hB := B.size
      have hz0 : news = [] := by have := HLEN.out; rw [Nat.sub_self] at this; exact List.eq_nil_of_length_eq_zero (by omega)
      subst hz0
      clear CC hown hb1 HSRC
      go_wp2_with (at_builtin; refine wpList_append_every2 _ rfl _ _ 22 134 rfl w.heap.size 38 38 j0 (.agg #[.string ⟨#[]⟩, .int .i64 0, .string ⟨#[]⟩]) 3 40 Tryz.underlying22 Tryz.underlying134 gi gz0 gz1 gz2 rfl (by decide) _ m xs rfl own1 _ 0 _ [] rfl rfl (fun h => absurd h (by omega)) (by simp) (by unfold maxLen; omega) (by omega) hB ?_)
      intro v' w2 own2 gr2
      obtain ⟨vA, vc, rfl⟩ := own_slice own2
      have B2 := B.grown gr2 hB (fun j hj => (own1.lt j hj).1)
      clear own1 gr2
      go_wp2_with fail
      go_roundw
      case rel => exact ⟨k + 1, m, _, by go_num, by omega, Lib.hid (by have := HML.out; rw [Nat.sub_self] at this; exact this), Lib.hid (by have := HXL.out; exact this), by simpa using own2, B2⟩
      case measure => simp [intOf]; omega
  · obtain rfl : k = n := by omega
    have hfin : (gs.take k).flatten = L := by rw [List.take_of_length_le (by rw [HN.out]; exact Nat.le_refl _), HE.out]
    have hm := HM.out
    have hx := HX.out
    rw [hfin] at hm hx
    subst hm hx
    obtain ⟨vA, vc, rfl⟩ := own_slice hown
    have OW := Lib.hid hown
    clear hown HM HX
    go_wp2_with fail
    go_ret
    exact ⟨hb, _, rfl, OW.out⟩
structure Fr (S : List Nat) (w w' : World) : Prop where
 os : w'.os = w.os
 tape : w'.tape = w.tape
 output : w'.output = w.output
 size : w.heap.size ≤ w'.heap.size
 block : ∀ k, k < w.heap.size → k ∉ S → w'.heap[k]? = w.heap[k]?
theorem Fr.of_below {S : List Nat} {w w' : World} (h : Below w.heap.size w w') : Fr S w w' := ⟨h.os, h.tape, h.output, h.size, fun k hk _ => h.block k hk⟩
theorem Fr.refl (S : List Nat) (w : World) : Fr S w w := Fr.of_below (Below.refl _ _)
theorem Fr.below {S : List Nat} {B : Nat} {w w' : World} (h : Fr S w w') (hB : B ≤ w.heap.size) (hS : ∀ x ∈ S, B ≤ x) : Below B w w' :=
 ⟨h.os, h.tape, h.output, h.size, fun k hk => h.block k (by omega) (fun hm => by have := hS k hm; omega)⟩
theorem Fr.trans {S T : List Nat} {a b c : World} (h : Fr S a b) (k : Fr T b c) (hT : ∀ x ∈ T, x ∈ S ∨ a.heap.size ≤ x) : Fr S a c :=
 ⟨k.os.trans h.os, k.tape.trans h.tape, k.output.trans h.output, Nat.le_trans h.size k.size, fun i hi hm => (k.block i (Nat.lt_of_lt_of_le hi h.size) (fun hx => by rcases hT i hx with h1 | h1; exact hm h1; omega)).trans (h.block i hi hm)⟩
theorem Fr.mono {S T : List Nat} {a b : World} (h : Fr S a b) (hT : ∀ x ∈ S, x ∈ T) : Fr T a b :=
 ⟨h.os, h.tape, h.output, h.size, fun i hi hm => h.block i hi (fun hx => hm (hT i hx))⟩
theorem Fr.grown {S : List Nat} {a b c : World} {row : Option Nat} (h : Fr S a b) (g : b.grownBy c row) (hr : ∀ k, row = some k → k ∈ S ∨ a.heap.size ≤ k) : Fr S a c :=
 ⟨g.os.trans h.os, g.tape.trans h.tape, g.output.trans h.output, Nat.le_trans h.size g.size, fun i hi hm => (g.block i (Nat.lt_of_lt_of_le hi h.size) (fun e => by rcases hr i e.symm with h1 | h1; exact hm h1; omega)).trans (h.block i hi hm)⟩
theorem Fr.set {S : List Nat} {a b : World} (h : Fr S a b) (p : Addr) (hp : p.block ∈ S ∨ a.heap.size ≤ p.block) (u : Value) : Fr S a (b.setCell p u) :=
 ⟨h.os, h.tape, h.output, by have := h.size; simpa [World.setCell] using this, fun i hi hm => (Below.heap_setCell b p u i (fun e => by rcases hp with h1 | h1; exact hm (e ▸ h1); omega)).trans (h.block i hi hm)⟩
theorem Fr.alloc {S : List Nat} {a b : World} (h : Fr S a b) (o : Obj) : Fr S a (b.alloc o) :=
 ⟨h.os, h.tape, h.output, by have := h.size; simp; omega, fun i hi hm => (Below.heap_alloc b o i (Nat.lt_of_lt_of_le hi h.size)).trans (h.block i hi hm)⟩
theorem Fr.cell {S : List Nat} {w w' : World} (h : Fr S w w') {p : Addr} (hp : p.block < w.heap.size) (hm : p.block ∉ S) : w'.cell? p = w.cell? p := World.cell?_of_block (w := w) (h.block p.block hp hm)
theorem PageAt.same {v : Value} {l : List Ce} {b : Nat} {w w' : World} (h : PageAt v l b w) (hk : w'.heap[b]? = w.heap[b]?) : PageAt v l b w' := by
 obtain ⟨cap, cur, h1, h2, h3, h4, h5⟩ := h
 exact ⟨cap, cur, h1, h2, h3, hk.trans h4, h5⟩
theorem getD_in {bs : List Nat} {i : Nat} (h : i < bs.length) : bs.getD i 0 ∈ bs := by simp [List.getD, h]
theorem PagesAt.same {v : Value} {gs : List (List Ce)} {fs : List Nat} {w w' : World} (h : PagesAt v gs fs w) (hk : ∀ b ∈ fs, w'.heap[b]? = w.heap[b]?) : PagesAt v gs fs w' := by
 rcases h with h | ⟨g, cap, cur, bs, h1, h0, h2, h3, h4, h5, rfl, h7, h8, h9⟩
 · exact .inl h
 · refine .inr ⟨g, cap, cur, bs, h1, h0, h2, h3, (hk g (by simp)).trans h4, h5, rfl, h7, h8, fun i hi => ?_⟩
   obtain ⟨u, h10, h11⟩ := h9 i hi
   exact ⟨u, h10, h11.same (hk _ (List.mem_cons_of_mem _ (getD_in (by omega))))⟩
theorem Mem.same {p : Nat} {L : List Ce} {fs : List Nat} {w w' : World} (h : Mem p L fs w) (hk : ∀ b ∈ fs, w'.heap[b]? = w.heap[b]?) : Mem p L fs w' := by
 obtain ⟨gs, ⟨v, fs', rfl, hp, hP⟩, ok, hL⟩ := h
 exact ⟨gs, ⟨v, fs', rfl, (hk p (by simp)).trans hp, hP.same fun b hb => hk b (by simp [hb])⟩, ok, hL⟩
theorem PageAt.lt {v : Value} {l : List Ce} {b : Nat} {w : World} (h : PageAt v l b w) : b < w.heap.size := h.row.1
theorem Mem.lt {p : Nat} {L : List Ce} {fs : List Nat} {w : World} (h : Mem p L fs w) : ∀ b ∈ fs, b < w.heap.size := by
 obtain ⟨gs, ⟨v, fs', rfl, hp, hP⟩, ok, hL⟩ := h
 intro b hb
 rcases List.mem_cons.1 hb with rfl | hb
 · exact (Go.ltA hp)
 · rcases hP with ⟨_, _, rfl⟩ | ⟨g, cap, cur, bs, h1, h0, h2, h3, h4, h5, rfl, h7, h8, h9⟩
   · cases hb
   · rcases List.mem_cons.1 hb with rfl | hb
     · exact (Go.ltA h4)
     · obtain ⟨i, hi, rfl⟩ := List.getElem_of_mem hb
       obtain ⟨u, _, h11⟩ := h9 i (by omega)
       have := h11.lt
       simpa [List.getD, hi] using this
theorem Mem.fr {p : Nat} {L : List Ce} {fs S : List Nat} {w w' : World} (h : Mem p L fs w) (f : Fr S w w') (hd : ∀ b ∈ fs, b ∉ S) : Mem p L fs w' := h.same fun b hb => f.block b (h.lt b hb) (hd b hb)
theorem Mem.later {p : Nat} {L : List Ce} {fs : List Nat} {w w' : World} (h : Mem p L fs w) (hb : Below w.heap.size w w') : Mem p L fs w' := h.fr (S := []) (Fr.of_below hb) (by simp)
theorem Mem.self {p : Nat} {L : List Ce} {fs : List Nat} {w : World} (h : Mem p L fs w) : p ∈ fs := by
 obtain ⟨gs, ⟨v, fs', rfl, hp, hP⟩, ok, hL⟩ := h
 simp
theorem newM_any (w : World) : Calls Tryz.prog 25 #[] w fun e w' => e = .returned (.pointer (some ⟨w.heap.size, 0, none⟩)) ∧ Mem w.heap.size [] [w.heap.size] w' ∧ Below w.heap.size w w' := by
 have h1 := heap_alloc_new w (.cells #[.bool true, .slice none 0 0] 109)
 have b1 := (Below.refl w.heap.size w).alloc (Nat.le_refl _) (.cells #[.bool true, .slice none 0 0] 109)
 go_enter Tryz.func25, Tryz.ntmps25
 go_wp2_with fail
 go_ret
 exact ⟨rfl, ⟨[], ⟨_, [], rfl, h1, .inl ⟨rfl, rfl, rfl⟩⟩, ⟨by simp, by simp [Rise], by simp⟩, rfl⟩, b1⟩
def ceV : Option Ce → Value
 | some c => .tuple #[ceVal c, .bool true]
 | none => .tuple #[ceVal Ce.zero, .bool false]
theorem bytes_snoc (l : List UInt8) : (⟨l.toArray⟩ : ByteArray) ++ ⟨#[0]⟩ = ⟨(l ++ [0]).toArray⟩ := by
 have := ByteArray.mk_append_mk l [0]
 simpa using this
theorem getM_any (p : Nat) (L : List Ce) (fs : List Nat) (key : List UInt8) (w : World) (M : Mem p L fs w) (hbig : L.length ≤ 100000) (hk : key.length ≤ 140737488351232) :
 Calls Tryz.prog 53 #[.pointer (some ⟨p, 0, none⟩), .string ⟨key.toArray⟩] w fun e w' => e = .returned (ceV (findC L key)) ∧ Below w.heap.size w w' := by
 have cc := fun W h => rangeM_any p L fs key (key ++ [0]) W h hbig
 have hone := rangeC_one L key
 generalize rangeC L key (key ++ [0]) = R at *
 rw [← bytes_snoc] at cc
 have b1 := (Below.refl w.heap.size w).alloc (Nat.le_refl _) (boxC Ce.zero)
 have q1 := CeAt.boxed Ce.zero w
 have M1 := Lib.hid (M.later b1)
 unfold boxC at b1 q1 M1
 simp only [Ce.zero] at b1 q1 M1
 have q1 : CeAt w.heap.size Ce.zero (w.alloc (.cells #[.string ⟨#[]⟩, .int .i64 0, .string ⟨#[]⟩] 38)) := q1
 have CC := Lib.hid cc
 have hk2 : (⟨key.toArray⟩ : ByteArray).size ≤ 140737488351232 := by show key.toArray.size ≤ _; simpa using hk
 cases hf : findC L key with
 | none =>
   rw [hf] at hone
   have hR : R = [] := List.head?_eq_none_iff.1 hone
   subst hR
   unfold ceV ceVal
   clear cc hone hf M
   go_enter Tryz.func53, Tryz.ntmps53
   go_wp2_with fail
   refine (CC.out _ M1.out).mono ?_
   rintro e w1 ⟨hb, v, rfl, own⟩
   have q2 := q1.later hb q1.lt
   have B := btP b1 hb
   obtain ⟨vA, vc, rfl⟩ := own_slice own
   have lt2 := q2.lt
   have HB := Lib.hid B
   obtain ⟨y0, y1, y2⟩ := q2.cell
   obtain ⟨z0, z1, z2⟩ := q2.frees
   clear own CC M1 q1 b1 hb B
   go_wp2_with fail
   obtain ⟨q3, b3⟩ := q2.all HB.out (Nat.le_refl _) Ce.zero
   unfold Ce.zero at q3 b3
   generalize ((World.setCell _ _ _).setCell _ _).setCell _ _ = w9 at *
   clear y0 y1 y2 z0 z1 z2
   obtain ⟨y0, y1, y2⟩ := q3.cell
   refine bodyPost_ret (v := .tuple #[.agg #[.string ⟨#[]⟩, .int .i64 0, .string ⟨#[]⟩], .bool false]) (by simp [results, Tryz.results53, go_sem, *]) rfl ⟨?_, b3⟩
   rfl
 | some c =>
   rw [hf] at hone
   have hR0 : 0 < R.length := by cases R with | nil => simp at hone | cons x R => simp
   have hR1 : R.getD 0 Ce.zero = c := by cases R with | nil => simp at hone | cons x R => simpa using hone
   have HR0 := Lib.hid hR0
   have HR1 := Lib.hid hR1
   unfold ceV ceVal
   clear cc hone hf M hR0 hR1
   go_enter Tryz.func53, Tryz.ntmps53
   go_wp2_with fail
   refine (CC.out _ M1.out).mono ?_
   rintro e w1 ⟨hb, v, rfl, own⟩
   have q2 := q1.later hb q1.lt
   have B := btP b1 hb
   obtain ⟨A, cap, rfl, h1, h2, h3⟩ := slAt_own own
   unfold maxLen at h2
   obtain ⟨b, o, rfl, hrow⟩ := h3 HR0.out
   have hcs := hrow.cells HR0.out
   rw [HR1.out] at hcs
   obtain ⟨x0, x1, x2⟩ := hcs
   simp only [Nat.zero_mul, Nat.add_zero] at x0 x1 x2
   have hr0 := HR0.out
   obtain ⟨n, hn⟩ : ∃ n, R.length = n := ⟨_, rfl⟩
   rw [hn] at hr0 h1 ⊢
   have lt2 := q2.lt
   have HB := Lib.hid B
   obtain ⟨y0, y1, y2⟩ := q2.cell
   obtain ⟨z0, z1, z2⟩ := q2.frees
   clear own CC M1 q1 b1 hb B hn h3 hrow
   go_wp2_with fail
   obtain ⟨q3, b3⟩ := q2.all HB.out (Nat.le_refl _) c
   generalize ((World.setCell _ _ _).setCell _ _).setCell _ _ = w9 at *
   clear y0 y1 y2 z0 z1 z2
   obtain ⟨y0, y1, y2⟩ := q3.cell
   refine bodyPost_ret (v := .tuple #[.agg #[.string ⟨c.k.toArray⟩, .int .i64 c.q, .string ⟨c.v.toArray⟩], .bool true]) (by simp [results, Tryz.results53, go_sem, *]) rfl ⟨?_, b3⟩
   rfl
theorem row_all {b o : Nat} {l : List Ce} {w : World} (h : RowAt b o l w) : ∀ j u, (rowOf l)[j]? = some u → w.cell? ((⟨b, o, none⟩ : Addr).add j) = some u := by
 have := row_part (lo := 0) (hi := l.length) h (Nat.zero_le _) (Nat.le_refl _)
 simpa using this
set_option maxHeartbeats 4000000 in
theorem cloneP_any (b o n cap : Nat) (l : List Ce) (w : World) (hl : l.length = n) (h0 : 0 < n) (hbig : n ≤ 100000) (hr : RowAt b o l w) :
 Calls Tryz.prog 117 #[.slice (some ⟨b, o, none⟩) n cap] w fun e w' => Below w.heap.size w w' ∧ ∃ b' cap', e = .returned (.slice (some ⟨b', 0, none⟩) n cap') ∧ w.heap.size ≤ b' ∧ PageAt (.slice (some ⟨b', 0, none⟩) n cap') l b' w' := by
 have hXl : (rowOf l).length = n * 3 := by rw [rowOf_length, hl]
 obtain ⟨j0, gi, gz0, gz1, gz2⟩ := info_one info_ce
 have b1 := (Below.refl w.heap.size w).alloc (Nat.le_refl _) (.cells #[] 38)
 have hr1 := hr.later b1 hr.1
 obtain ⟨W, hW⟩ : ∃ W, w.alloc (.cells #[] 38) = W := ⟨_, rfl⟩
 have hWs : W.heap.size = w.heap.size + 1 := by rw [← hW]; simp
 rw [hW] at b1 hr1
 have hge := grownCap_ge W n 0 38
 have hle := grownCap_le_maxLen W n 0 38 (by unfold maxLen; omega)
 have hrun : ∀ ty, (Builtin.append_ #[134, 134] ty #[.slice (some ⟨w.heap.size, 0, none⟩) 0 0, .slice (some ⟨b, o, none⟩) n cap]).run Tryz.prog W = .ok (.slice (some ⟨W.heap.size, 0, none⟩) n (grownCap W n 0 38)) (W.drew.alloc (.cells ((rowOf l).toArray ++ Builtin.zeroCells ((.agg #[.string ⟨#[]⟩, .int .i64 0, .string ⟨#[]⟩]) : Value).cells (grownCap W n 0 38 - n)) 38)) := fun ty => by
  have := run_append_grow (P := Tryz.prog) W 134 ty 38 j0 _ Tryz.underlying134 gi gz0 ⟨w.heap.size, 0, none⟩ 0 0 [] (by simp) (by simp) ⟨b, o, none⟩ n cap (rowOf l) (by rw [gz1]; exact hXl) (row_all hr1) (by omega) (by omega) (by rw [gz2]; exact growslice_fits (by omega) (by omega))
  simpa using this
 obtain ⟨G, hG⟩ : ∃ G, grownCap W n 0 38 = G := ⟨_, rfl⟩
 rw [hG] at hrun hge hle
 obtain ⟨R, hRR⟩ : ∃ R, (rowOf l).toArray ++ Builtin.zeroCells ((.agg #[.string ⟨#[]⟩, .int .i64 0, .string ⟨#[]⟩]) : Value).cells (G - n) = R := ⟨_, rfl⟩
 rw [hRR] at hrun
 have hRs : R.size = G * 3 := by
  rw [← hRR, Array.size_append, size_zeroCells, List.size_toArray, hXl]
  show n * 3 + (G - n) * 3 = _
  omega
 have hfin : PageAt (.slice (some ⟨W.heap.size, 0, none⟩) n G) l W.heap.size (W.drew.alloc (.cells R 38)) := by
  refine ⟨G, R, by rw [hl], by rw [hl]; exact hge, hle, heap_alloc_new W.drew _, by omega, ?_⟩
  rw [hl, ← hRR, Array.toList_append, List.toList_toArray, List.take_left' hXl]
 have bfin : Below w.heap.size w (W.drew.alloc (.cells R 38)) := b1.drew.alloc b1.size _
 rw [hWs] at hfin hrun
 have HF := Lib.hid (And.intro hfin bfin)
 have HRUN := Lib.hid hrun
 have hW2 := hW
 clear hfin bfin hrun hRR hRs hXl hr hr1 b1 gi gz0 gz1 gz2 hG hge hle
 subst hW
 clear hW2 hWs
 have heq : ∀ W, (binOp .eql 134 (.slice (some ⟨b, o, none⟩) n cap) (.slice none 0 0)).run Tryz.prog W = .ok (.bool false) W := fun W => Lib.run_eql_slice_nil W 134 38 (some ⟨b, o, none⟩) n cap 0 0 Tryz.underlying134
 go_enter Tryz.func117, Tryz.ntmps117
 go_wp2_with (refine wpList_append_runE _ rfl _ _ 134 134 rfl _ _ rfl rfl (HRUN.out _) ?_)
 go_ret
 exact ⟨HF.out.2, w.heap.size + 1, G, rfl, Nat.le_succ _, HF.out.1⟩
set_option maxHeartbeats 4000000 in
theorem cloneC_any (b o n cap : Nat) (l : List Ce) (w : World) (hl : l.length = n) (h0 : 0 < n) (hbig : n ≤ 100000) (hr : RowAt b o l w) :
 Calls Tryz.prog 64 #[.slice (some ⟨b, o, none⟩) n cap] w fun e w' => Below w.heap.size w w' ∧ ∃ b' cap', e = .returned (.slice (some ⟨b', 0, none⟩) n cap') ∧ w.heap.size ≤ b' ∧ PageAt (.slice (some ⟨b', 0, none⟩) n cap') l b' w' := by
 have hXl : (rowOf l).length = n * 3 := by rw [rowOf_length, hl]
 obtain ⟨j0, gi, gz0, gz1, gz2⟩ := info_one info_ce
 have b1 := (Below.refl w.heap.size w).alloc (Nat.le_refl _) (.cells #[] 38)
 have hr1 := hr.later b1 hr.1
 obtain ⟨W, hW⟩ : ∃ W, w.alloc (.cells #[] 38) = W := ⟨_, rfl⟩
 have hWs : W.heap.size = w.heap.size + 1 := by rw [← hW]; simp
 rw [hW] at b1 hr1
 have hge := grownCap_ge W n 0 38
 have hle := grownCap_le_maxLen W n 0 38 (by unfold maxLen; omega)
 have hrun : ∀ ty, (Builtin.append_ #[22, 22] ty #[.slice (some ⟨w.heap.size, 0, none⟩) 0 0, .slice (some ⟨b, o, none⟩) n cap]).run Tryz.prog W = .ok (.slice (some ⟨W.heap.size, 0, none⟩) n (grownCap W n 0 38)) (W.drew.alloc (.cells ((rowOf l).toArray ++ Builtin.zeroCells ((.agg #[.string ⟨#[]⟩, .int .i64 0, .string ⟨#[]⟩]) : Value).cells (grownCap W n 0 38 - n)) 38)) := fun ty => by
  have := run_append_grow (P := Tryz.prog) W 22 ty 38 j0 _ Tryz.underlying22 gi gz0 ⟨w.heap.size, 0, none⟩ 0 0 [] (by simp) (by simp) ⟨b, o, none⟩ n cap (rowOf l) (by rw [gz1]; exact hXl) (row_all hr1) (by omega) (by omega) (by rw [gz2]; exact growslice_fits (by omega) (by omega))
  simpa using this
 obtain ⟨G, hG⟩ : ∃ G, grownCap W n 0 38 = G := ⟨_, rfl⟩
 rw [hG] at hrun hge hle
 obtain ⟨R, hRR⟩ : ∃ R, (rowOf l).toArray ++ Builtin.zeroCells ((.agg #[.string ⟨#[]⟩, .int .i64 0, .string ⟨#[]⟩]) : Value).cells (G - n) = R := ⟨_, rfl⟩
 rw [hRR] at hrun
 have hRs : R.size = G * 3 := by
  rw [← hRR, Array.size_append, size_zeroCells, List.size_toArray, hXl]
  show n * 3 + (G - n) * 3 = _
  omega
 have hfin : PageAt (.slice (some ⟨W.heap.size, 0, none⟩) n G) l W.heap.size (W.drew.alloc (.cells R 38)) := by
  refine ⟨G, R, by rw [hl], by rw [hl]; exact hge, hle, heap_alloc_new W.drew _, by omega, ?_⟩
  rw [hl, ← hRR, Array.toList_append, List.toList_toArray, List.take_left' hXl]
 have bfin : Below w.heap.size w (W.drew.alloc (.cells R 38)) := b1.drew.alloc b1.size _
 rw [hWs] at hfin hrun
 have HF := Lib.hid (And.intro hfin bfin)
 have HRUN := Lib.hid hrun
 have hW2 := hW
 clear hfin bfin hrun hRR hRs hXl hr hr1 b1 gi gz0 gz1 gz2 hG hge hle
 subst hW
 clear hW2 hWs
 have heq : ∀ W, (binOp .eql 22 (.slice (some ⟨b, o, none⟩) n cap) (.slice none 0 0)).run Tryz.prog W = .ok (.bool false) W := fun W => Lib.run_eql_slice_nil W 22 38 (some ⟨b, o, none⟩) n cap 0 0 Tryz.underlying22
 go_enter Tryz.func64, Tryz.ntmps64
 go_wp2_with (refine wpList_append_runE _ rfl _ _ 22 22 rfl _ _ rfl rfl (HRUN.out _) ?_)
 go_ret
 exact ⟨HF.out.2, w.heap.size + 1, G, rfl, Nat.le_succ _, HF.out.1⟩
set_option maxHeartbeats 4000000 in
theorem parted_any (b n cap : Nat) (l : List Ce) (w : World) (hl : l.length = n) (h0 : 2 ≤ n) (hbig : n ≤ 100000) (hnc : n ≤ cap) (hcap : cap ≤ maxLen) (hp : PageAt (.slice (some ⟨b, 0, none⟩) n cap) l b w) :
 Calls Tryz.prog 87 #[.slice (some ⟨b, 0, none⟩) n cap] w fun e w' => Below w.heap.size w w' ∧ ∃ g b2 cap2, e = .returned (.slice (some ⟨g, 0, none⟩) 2 2) ∧ w.heap.size ≤ g ∧ w.heap.size ≤ b2 ∧ w'.heap[g]? = some (.cells #[.slice (some ⟨b, 0, none⟩) (n / 2 : Nat) (n / 2 : Nat), .slice (some ⟨b2, 0, none⟩) (n - n / 2) cap2] 134 (0, 0)) ∧
  PageAt (.slice (some ⟨b2, 0, none⟩) (n - n / 2) cap2) (l.drop (n / 2)) b2 w' := by
 have hrow := hp.row.2
 have hrd : RowAt b (n / 2 * 3) (l.drop (n / 2)) w := by
  refine ⟨hrow.1, fun i hi j u hj => ?_⟩
  rw [List.length_drop] at hi
  have hg : (l.drop (n / 2)).getD i Ce.zero = l.getD (n / 2 + i) Ce.zero := by simp [List.getD, List.getElem?_drop]
  rw [hg] at hj
  have := hrow.2 (n / 2 + i) (by omega) j u hj
  rw [show n / 2 * 3 + i * 3 + j = 0 + (n / 2 + i) * 3 + j by omega]
  exact this
 have hdl : (l.drop (n / 2)).length = n - n / 2 := by rw [List.length_drop, hl]
 obtain ⟨h, hh⟩ : ∃ h, n / 2 = h := ⟨_, rfl⟩
 have hh2 : ((n : Int) / 2) = (h : Int) := by omega
 rw [hh] at hrd hdl
 rw [hh]
 have h1 : 0 < h := by omega
 have h2 : h < n := by omega
 have cc := fun W (hb : Below w.heap.size w W) => cloneP_any b (h * 3) (n - h) (cap - h) (l.drop h) W hdl (by omega) (by omega) (hrd.later hb hrd.1)
 have CC := Lib.hid cc
 clear cc hrd hrow hp hdl hh hl
 unfold maxLen at hcap
 have e1 : (0 : Int) ≤ h := by omega
 have e2 : (h : Int) ≤ n := by omega
 have e3 : (h : Int) ≤ cap := by omega
 have e4 : ¬ (cap = h) := by omega
 have e5 : (h : Int).toNat = h := by omega
 go_enter Tryz.func87, Tryz.ntmps87
 go_wp2_with fail
 go_region_with ((go_at_call 117; refine (CC.out _ (Below.drew (Below.refl _ _))).mono ?_; rintro e w1 ⟨hb, b', cap', rfl, hs, hP⟩))
 all_goals
  have B := (Below.drew (Below.refl w.heap.size w)).trans (hb : Below w.heap.size w.drew w1)
  have hnew := heap_alloc_new w1 (.cells #[.slice (some ⟨b, 0, none⟩) h h, .slice (some ⟨b', 0, none⟩) (n - h) cap'] 134)
  have hP2 := hP.same (Below.heap_alloc w1 (.cells #[.slice (some ⟨b, 0, none⟩) h h, .slice (some ⟨b', 0, none⟩) (n - h) cap'] 134) b' hP.lt)
  have B2 := B.alloc B.size (.cells #[.slice (some ⟨b, 0, none⟩) h h, .slice (some ⟨b', 0, none⟩) (n - h) cap'] 134)
  have HF := Lib.hid (And.intro hnew (And.intro hP2 B2))
  have HS := Lib.hid (And.intro B.size (show w.heap.size ≤ b' from hs))
  clear hnew hP2 B2 hb hP hs B CC
  go_wp2_with fail
  go_ret
  exact ⟨HF.out.2.2, w1.heap.size, b', cap', rfl, HS.out.1, HS.out.2, HF.out.1, HF.out.2.1⟩
open Go.Shelf
theorem RowAt.part {b o : Nat} {l : List Ce} {w : World} (h : RowAt b o l w) (lo n : Nat) (hn : lo + n ≤ l.length) : RowAt b (o + lo * 3) ((l.drop lo).take n) w := by
 refine ⟨h.1, fun i hi j u hj => ?_⟩
 rw [List.length_take, List.length_drop] at hi
 have hg : ((l.drop lo).take n).getD i Ce.zero = l.getD (lo + i) Ce.zero := by
  have : i < n := by omega
  simp [List.getD, List.getElem?_take, this, List.getElem?_drop]
 rw [hg] at hj
 have := h.2 (lo + i) (by omega) j u hj
 rw [show o + lo * 3 + i * 3 + j = o + (lo + i) * 3 + j by omega]
 exact this
theorem own_not {W : World} {n₁ n r : Nat} {v : Value} {vs : List Value} {e : TypeId} {sz : Nat} (h : W.ownsRow n₁ e sz v n vs) {o : Obj} (ho : W.heap[r]? = some o) (hc : ∀ cur, o ≠ .cells cur e (0, 0)) : v.ownBlock ≠ some r := by
 rcases h.2 with ⟨rfl, _⟩ | ⟨g, cap, cur, rfl, _, hgb, _⟩
 · simp [Value.ownBlock]
 · intro e'
   have e2 : g = r := by simpa [Value.ownBlock] using e'
   rw [← e2, hgb] at ho
   cases ho
   exact hc _ rfl
theorem own_same {w w' : World} {base n : Nat} {v : Value} {xs : List Value} {e : TypeId} {sz : Nat} (h : w.ownsRow base e sz v n xs) (hs : ∀ g, v.ownBlock = some g → w'.heap[g]? = w.heap[g]?) : w'.ownsRow base e sz v n xs := by
 refine ⟨h.1, ?_⟩
 rcases h.2 with ⟨h1, h2⟩ | ⟨g1, cap1, cur1, rfl, h2, hg1, h3⟩
 · exact .inl ⟨h1, h2⟩
 · exact .inr ⟨g1, cap1, cur1, rfl, h2, (hs g1 rfl).trans hg1, h3⟩
theorem run_append_sl {base : Nat} {v u : Value} {l m : List Ce} {w : World} (own : w.ownsRow base 38 3 v l.length (rowOf l)) (hb : base ≤ w.heap.size) (hu : SlAt u m w) (hsz : l.length + m.length ≤ 100000) :
 ∃ v' w', (Builtin.append_ #[22, 22] 22 #[v, u]).run Tryz.prog w = .ok v' w' ∧ w'.ownsRow base 38 3 v' (l ++ m).length (rowOf (l ++ m)) ∧ Below base w w' := by
 obtain ⟨j0, gi, gz0, gz1, gz2⟩ := info_one info_ce
 obtain ⟨A, cap, rfl, h1, h2, h3⟩ := hu
 obtain ⟨v', w', hr, r1, r2⟩ := run_append_every2 w 22 22 22 base 38 38 j0 _ 3 40 Tryz.underlying22 Tryz.underlying22 gi gz0 gz1 gz2 rfl (by decide) v l.length (rowOf l) own A m.length cap (rowOf m) (rowOf_length m)
  (fun h0 => by
    obtain ⟨b, o, rfl, hrow⟩ := h3 h0
    exact ⟨_, rfl, row_all hrow⟩) (rowOf_one m) (by unfold maxLen; omega) (by omega) hb
 refine ⟨v', w', hr, ?_, ?_⟩
 · rw [List.length_append]
   have : rowOf (l ++ m) = rowOf l ++ rowOf m := by simp [rowOf]
   rw [this]
   exact r1
 · refine (Below.refl base w).grown r2 hb fun k hk => ?_
   rcases own.2 with ⟨rfl, _⟩ | ⟨g, c, cur, rfl, hg, _⟩
   · simp [Value.ownBlock] at hk
   · have : g = k := by simpa [Value.ownBlock] using hk
     omega
def RowW (g cap : Nat) (l : List Ce) (w : World) : Prop := ∃ cur : Array Value, w.heap[g]? = some (.cells cur 38 (0, 0)) ∧ cur.size = cap * 3 ∧ l.length ≤ cap ∧ ∀ i, i < l.length → ∀ j, j < 3 → cur[i * 3 + j]? = (ceRow (l.getD i Ce.zero))[j]?
theorem RowW.row {g cap : Nat} {l : List Ce} {w : World} (h : RowW g cap l w) : RowAt g 0 l w := by
 obtain ⟨cur, h1, h2, h3, h4⟩ := h
 refine ⟨(Go.ltA h1), fun i hi j v hv => ?_⟩
 have hj : j < 3 := by
  have := (List.getElem?_eq_some_iff.1 hv).1
  simpa [ceRow] using this
 rw [cell_of_row w g _ _ _ _ h1, Nat.zero_add, h4 i hi j hj]
 exact hv
theorem RowW.free {g cap : Nat} {l : List Ce} {w : World} (h : RowW g cap l w) (o : Nat) : w.frozen? ⟨g, o, none⟩ = false := by
 obtain ⟨cur, h1, _⟩ := h
 simp [World.frozen?, h1]
theorem RowW.put {g cap : Nat} {l : List Ce} {w : World} (h : RowW g cap l w) {k : Nat} (hk : k < l.length) (c : Ce) :
 RowW g cap (l.set k c) (((w.setCell ⟨g, k * 3, none⟩ (.string ⟨c.k.toArray⟩)).setCell ⟨g, k * 3 + 1, none⟩ (.int .i64 c.q)).setCell ⟨g, k * 3 + 2, none⟩ (.string ⟨c.v.toArray⟩)) := by
 obtain ⟨cur, h1, h2, h3, h4⟩ := h
 have a1 := heap_setCell_same w g (k * 3) _ _ (.string ⟨c.k.toArray⟩) h1
 have a2 := heap_setCell_same _ g (k * 3 + 1) _ _ (.int .i64 c.q) a1
 have a3 := heap_setCell_same _ g (k * 3 + 2) _ _ (.string ⟨c.v.toArray⟩) a2
 refine ⟨_, a3, by simpa using h2, by simpa using h3, fun i hi j hj => ?_⟩
 rw [List.length_set] at hi
 simp only [Array.getElem?_setIfInBounds, Array.size_setIfInBounds]
 by_cases e : i = k
 · subst e
   have hg : (l.set i c).getD i Ce.zero = c := by simp [List.getD, hi]
   rw [hg]
   rcases (by omega : j = 0 ∨ j = 1 ∨ j = 2) with rfl | rfl | rfl
   · rw [if_neg (by omega), if_neg (by omega), if_pos (by omega), if_pos (by omega)]; rfl
   · rw [if_neg (by omega), if_pos (by omega), if_pos (by omega)]; rfl
   · rw [if_pos (by omega), if_pos (by omega)]; rfl
 · have hg : (l.set k c).getD i Ce.zero = l.getD i Ce.zero := by simp [List.getD, List.getElem?_set, Ne.symm e]
   rw [hg, if_neg (by omega), if_neg (by omega), if_neg (by omega)]
   exact h4 i hi j hj
theorem RowW.later {g cap : Nat} {l : List Ce} {w w' : World} (h : RowW g cap l w) (hb : Below w.heap.size w w') : RowW g cap l w' := by
 obtain ⟨cur, h1, h2⟩ := h
 exact ⟨cur, by rw [hb.block g (Go.ltA h1)]; exact h1, h2⟩
theorem RowW.sl {g cap : Nat} {l : List Ce} {w : World} (h : RowW g cap l w) (hm : cap ≤ maxLen) {n : Nat} (hn : l.length = n) : SlAt (.slice (some ⟨g, 0, none⟩) n cap) l w := by
 obtain ⟨cur, h1, h2, h3, h4⟩ := id h
 subst hn
 exact ⟨_, cap, rfl, h3, hm, fun _ => ⟨g, 0, rfl, h.row⟩⟩
end Go.Proofs.YtoglloafpnopaaaGreat
