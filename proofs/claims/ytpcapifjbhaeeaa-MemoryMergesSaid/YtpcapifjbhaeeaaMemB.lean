/- Searches: where a page, a cell, a key stands. -/
import Derived.Test.YtpcapifjbhaeeaaMemA
import Derived.Deep.Cut
namespace Go.Proofs.Ytpcapifjbhaeeaa
set_option maxRecDepth 16000
open Go.RowKit Spoor
set_option linter.unusedVariables false

theorem SlAt.row {A : Option Addr} {n cap : Nat} {l : List Ce} {w : World} (h : SlAt (.slice A n cap) l w) (hp : 0 < l.length) : ∃ b o, A = some ⟨b, o, none⟩ ∧ RowAt b o l w := by
  obtain ⟨A2, c2, he, _, _, hr⟩ := h
  obtain ⟨b, o, h1, h2⟩ := hr hp
  injection he with he _ _
  exact ⟨b, o, he.trans h1, h2⟩
/-- pages in memory -/
def PgsAt (v : Value) (gs : List (List Ce)) (w : World) : Prop := ∃ A cap, v = .slice A gs.length cap ∧ gs.length ≤ cap ∧ cap ≤ maxLen ∧ (0 < gs.length → ∃ g, A = some ⟨g, 0, none⟩ ∧ g < w.heap.size ∧ ∀ i, i < gs.length → ∃ s, w.cell? ⟨g, i, none⟩ = some s ∧ SlAt s (gs.getD i []) w)
theorem PgsAt.later {v : Value} {gs : List (List Ce)} {w w' : World} (h : PgsAt v gs w) (hb : Below w.heap.size w w') : PgsAt v gs w' := by
  obtain ⟨A, cap, h1, h2, h3, h4⟩ := h
  refine ⟨A, cap, h1, h2, h3, fun hp => ?_⟩
  obtain ⟨g, h5, h6, h7⟩ := h4 hp
  refine ⟨g, h5, Nat.lt_of_lt_of_le h6 hb.size, fun i hi => ?_⟩
  obtain ⟨s, h8, h9⟩ := h7 i hi
  exact ⟨s, (hb.cell (p := ⟨g, i, none⟩) h6).trans h8, h9.later hb⟩
theorem PgsAt.row {A : Option Addr} {n cap : Nat} {gs : List (List Ce)} {w : World} (h : PgsAt (.slice A n cap) gs w) (hp : 0 < gs.length) : ∃ g, A = some ⟨g, 0, none⟩ ∧ g < w.heap.size ∧ ∀ i, i < gs.length → ∃ s, w.cell? ⟨g, i, none⟩ = some s ∧ SlAt s (gs.getD i []) w := by
  obtain ⟨A2, c2, he, _, _, hr⟩ := h
  obtain ⟨g, h1, h2⟩ := hr hp
  injection he with he _ _
  exact ⟨g, he.trans h1, h2⟩
theorem head_getD (l : List Ce) : l.headD Ce.zero = l.getD 0 Ce.zero := by cases l <;> rfl
theorem behind_any (s : Value) (l : List Ce) (c : Ce) (w : World) (hs : SlAt s l w) (h0 : 0 < l.length) :
    Calls Try.prog 42 #[s, ceVal c] w fun e w' => e = .returned (.int .i64 (if 0 < cmpCe (l.headD Ce.zero) c then 1 else -1)) ∧ Below w.heap.size w w' := by
  obtain ⟨A, cap, rfl, h1, h2, h3⟩ := hs
  unfold maxLen at h2
  obtain ⟨b, o, rfl, hrow⟩ := h3 h0
  obtain ⟨n, hn⟩ : ∃ n, l.length = n := ⟨_, rfl⟩
  have hc := hrow.cells (i := 0) h0
  have hlb := hrow.1
  rw [hn] at h1 h0 ⊢
  rw [head_getD]
  have cc := fun W => compare_any (l.getD 0 Ce.zero) c W
  have q1 := CeAt.boxed c w
  have b1 := (Below.refl w.heap.size w).alloc (Nat.le_refl _) (boxC c)
  have hrow1 := hrow.later b1 hlb
  have hc1 := hrow1.cells (i := 0) (by rw [hn]; exact h0)
  generalize hd : l.getD 0 Ce.zero = d at *
  obtain ⟨r, hr⟩ : ∃ r, cmpCe d c = r := ⟨_, rfl⟩
  rw [hr] at cc ⊢
  obtain ⟨R, hR⟩ : ∃ R : Int, (if 0 < r then 1 else -1) = R := ⟨_, rfl⟩
  rw [hR]
  have HR := Lib.hid hR
  unfold boxC at q1 b1 hc1 hrow1
  unfold ceVal at cc ⊢
  have CC := Lib.hid cc
  clear cc hrow h3 hn hd hr hc hR
  have hlb1 := hrow1.1
  obtain ⟨x0, x1, x2⟩ := hc1
  simp only [Nat.zero_mul, Nat.add_zero] at x0 x1 x2
  clear hrow1
  go_enter Try.func42, Try.ntmps42
  go_wp2_with fail
  generalize w.alloc _ = w1 at *
  obtain ⟨y0, y1, y2⟩ := q1.cell
  have lt1 := q1.lt
  clear q1
  by_cases hp : 0 < r
  · have e1 : decide (0 < r) = true := decide_eq_true hp
    obtain rfl : R = 1 := by rw [← HR.out, if_pos hp]
    clear hp HR
    refine wp_region_more (by kernel_rfl) (by kernel_rfl) ?_
    repeat (go_big_quiet_step (fail))
    go_big_quiet_step (exact Calls.more (CC.out _))
    repeat (go_big_quiet_step (fail))
    refine wpQuiet_nil ?_
    rintro _ ⟨ex, rfl⟩
    have b2 := World.below_more w1 ex
    generalize w1.more ex = w2 at *
    go_wp2_with fail
    go_ret
    exact ⟨rfl, b1.trans (b2.mono (Nat.le_of_lt lt1))⟩
  · have e1 : decide (0 < r) = false := decide_eq_false hp
    obtain rfl : R = -1 := by rw [← HR.out, if_neg hp]
    clear hp HR
    refine wp_region_more (by kernel_rfl) (by kernel_rfl) ?_
    repeat (go_big_quiet_step (fail))
    go_big_quiet_step (exact Calls.more (CC.out _))
    repeat (go_big_quiet_step (fail))
    refine wpQuiet_nil ?_
    rintro _ ⟨ex, rfl⟩
    have b2 := World.below_more w1 ex
    generalize w1.more ex = w2 at *
    go_wp2_with fail
    go_ret
    exact ⟨rfl, b1.trans (b2.mono (Nat.le_of_lt lt1))⟩
def keyCmp (c : Ce) (key : List UInt8) : Int := if Op.bytesLess c.k key then -1 else 1
theorem keyCmp_any (c : Ce) (key : List UInt8) (w : World) :
    Calls Try.prog 65 #[ceVal c, .string ⟨key.toArray⟩] w fun e w' => e = .returned (.int .i64 (keyCmp c key)) ∧ Below w.heap.size w w' := by
  have q1 := CeAt.boxed c w
  have b1 := (Below.refl w.heap.size w).alloc (Nat.le_refl _) (boxC c)
  obtain ⟨R, hR⟩ : ∃ R : Int, keyCmp c key = R := ⟨_, rfl⟩
  rw [hR]
  have HR := Lib.hid hR
  unfold boxC at q1 b1
  unfold ceVal
  clear hR
  cases e : Op.bytesLess c.k key with
  | true =>
    obtain rfl : R = -1 := by rw [← HR.out]; unfold keyCmp; rw [e]; rfl
    clear HR
    go_enter Try.func65, Try.ntmps65
    go_wp2_with fail
    go_ret
    exact ⟨rfl, b1⟩
  | false =>
    obtain rfl : R = 1 := by rw [← HR.out]; unfold keyCmp; rw [e]; rfl
    clear HR
    go_enter Try.func65, Try.ntmps65
    go_wp2_with fail
    go_ret
    exact ⟨rfl, b1⟩
set_option maxHeartbeats 4000000 in
theorem searchP_any (s : Value) (l : List (List Ce)) (c : Ce) (t : Nat) (w : World) (hs : PgsAt s l w) (hg : ∀ g ∈ l, 0 < g.length) (hbig : l.length ≤ 1000000) (ht : t ≤ l.length)
    (h1 : ∀ i, i < t → cmpCe ((l.getD i []).headD Ce.zero) c ≤ 0) (h2 : ∀ i, t ≤ i → i < l.length → 0 < cmpCe ((l.getD i []).headD Ce.zero) c) :
    Calls Try.prog 41 #[s, ceVal c, .func (.func 42) #[] #[]] w fun e w' => e = .returned (.tuple #[.int .i64 t, .bool false]) ∧ Below w.heap.size w w' := by
  obtain ⟨A, cap, rfl, g1, g2, -⟩ := id hs
  unfold maxLen at g2
  have HS := Lib.hid hs
  have H1 := Lib.hid h1
  have H2 := Lib.hid h2
  have HG := Lib.hid hg
  obtain ⟨n, hn⟩ : ∃ n, l.length = n := ⟨_, rfl⟩
  have HN := Lib.hid hn
  rw [hn] at g1 hbig ht HS ⊢
  clear hs h1 h2 hn hg
  have q1 := CeAt.boxed c w
  have b1 := (Below.refl w.heap.size w).alloc (Nat.le_refl _) (boxC c)
  have HS := Lib.hid (HS.out.later b1)
  unfold boxC at q1 b1 HS
  unfold ceVal
  go_enter Try.func41, Try.ntmps41
  go_wp2_with fail
  generalize w.alloc _ = w1 at *
  have hsz := Nat.le_of_lt q1.lt
  generalize hg0 : w.heap.size = g at q1 hsz ⊢
  have HG0 := Lib.hid hg0
  clear hg0
  go_loopw [9, 10] (fun i j wr => ∃ (a z : Nat), i = .int .i64 a ∧ j = .int .i64 z ∧ a ≤ t ∧ t ≤ z ∧ z ≤ n ∧ Below w1.heap.size w1 wr) (fun i j _ => (intOf j).toNat - (intOf i).toNat)
  case atStart => exact ⟨0, n, rfl, rfl, by omega, ht, Nat.le_refl _, Below.refl _ _⟩
  case round =>
    obtain ⟨a, z, rfl, rfl, ha, hz, hzn, hb⟩ := hrel
    have q2 := q1.later hb q1.lt
    obtain ⟨y0, y1, y2⟩ := q2.cell
    have lt2 := q2.lt
    clear q2
    by_cases hlt : a < z
    · go_upto_region 5 with fail
      obtain ⟨h, hh⟩ : ∃ h : Nat, ((a : Int) + z) / 2 = h := ⟨((a + z) / 2 : Nat), by omega⟩
      have h3 : a ≤ h := by omega
      have h4 : h < z := by omega
      rw [hh]
      clear hh
      obtain ⟨g', rfl, hg', hcs⟩ := (HS.out.later hb).row (by have := (show h < l.length from (by rw [HN.out]; omega)); omega)
      obtain ⟨s, hs1, hs2⟩ := hcs h (by rw [HN.out]; omega)
      have cc := fun ex => behind_any s (l.getD h []) c (wr.more ex) (hs2.later (World.below_more wr ex)) (HG.out _ (by simp [List.getD, show h < l.length from (by rw [HN.out]; omega)]))
      obtain ⟨sA, sc, rfl, -, -, -⟩ := id hs2
      generalize (l.getD h []).length = m at *
      clear hcs hs2
      unfold ceVal at cc
      by_cases hht : h < t
      · have hr := H1.out h hht
        rw [show (if 0 < cmpCe ((l.getD h []).headD Ce.zero) c then (1 : Int) else -1) = -1 from if_neg (by omega)] at cc
        clear hr
        have CC := Lib.hid cc
        clear cc
        refine wp_region_more (by kernel_rfl) (by kernel_rfl) ?_
        repeat (go_big_quiet_step (fail))
        go_big_quiet_step (exact Calls.more (CC.out _))
        repeat (go_big_quiet_step (fail))
        refine wpQuiet_nil ?_
        rintro _ ⟨ex, rfl⟩
        have b2 := World.below_more wr ex
        clear CC
        generalize wr.more ex = w2 at *
        have B := btP hb b2
        go_wp2_with fail
        go_roundw
        case rel => exact ⟨h + 1, z, by go_num, rfl, by omega, by omega, by omega, B⟩
        case measure => simp [intOf]; omega
      · have hr := H2.out h (by omega) (by rw [HN.out]; omega)
        rw [show (if 0 < cmpCe ((l.getD h []).headD Ce.zero) c then (1 : Int) else -1) = 1 from if_pos hr] at cc
        clear hr
        have CC := Lib.hid cc
        clear cc
        refine wp_region_more (by kernel_rfl) (by kernel_rfl) ?_
        repeat (go_big_quiet_step (fail))
        go_big_quiet_step (exact Calls.more (CC.out _))
        repeat (go_big_quiet_step (fail))
        refine wpQuiet_nil ?_
        rintro _ ⟨ex, rfl⟩
        have b2 := World.below_more wr ex
        clear CC
        generalize wr.more ex = w2 at *
        have B := btP hb b2
        go_wp2_with fail
        go_roundw
        case rel => exact ⟨a, h, rfl, rfl, by omega, by omega, by omega, B⟩
        case measure => simp [intOf]; omega
    · obtain rfl : a = t := by omega
      obtain rfl : z = a := by omega
      go_upto_region 8 with fail
      by_cases hzt : z < n
      · have hr := H2.out z (Nat.le_refl _) (by rw [HN.out]; exact hzt)
        obtain ⟨g', rfl, hg', hcs⟩ := (HS.out.later hb).row (by have := (show z < l.length from (by rw [HN.out]; exact hzt)); omega)
        obtain ⟨s, hs1, hs2⟩ := hcs z (by rw [HN.out]; exact hzt)
        have cc := fun ex => behind_any s (l.getD z []) c (wr.more ex) (hs2.later (World.below_more wr ex)) (HG.out _ (by simp [List.getD, show z < l.length from (by rw [HN.out]; exact hzt)]))
        obtain ⟨sA, sc, rfl, -, -, -⟩ := id hs2
        generalize (l.getD z []).length = m at *
        clear hcs hs2
        unfold ceVal at cc
        rw [show (if 0 < cmpCe ((l.getD z []).headD Ce.zero) c then (1 : Int) else -1) = 1 from if_pos hr] at cc
        clear hr
        have CC := Lib.hid cc
        clear cc
        refine wp_region_more (by kernel_rfl) (by kernel_rfl) ?_
        repeat (go_big_quiet_step (fail))
        go_big_quiet_step (exact Calls.more (CC.out _))
        repeat (go_big_quiet_step (fail))
        refine wpQuiet_nil ?_
        rintro _ ⟨ex, rfl⟩
        have b2 := World.below_more wr ex
        clear CC
        generalize wr.more ex = w2 at *
        have B := btP hb b2
        go_wp2_with fail
        go_ret2
        exact ⟨rfl, (b1.trans (B.mono (by rw [HG0.out]; exact hsz)))⟩
      · have e1 : decide (z < n) = false := decide_eq_false hzt
        refine wp_region_more (by kernel_rfl) (by kernel_rfl) ?_
        repeat (go_big_quiet_step (fail))
        refine wpQuiet_nil ?_
        rintro _ ⟨ex, rfl⟩
        have b2 := World.below_more wr ex
        generalize wr.more ex = w2 at *
        have B := btP hb b2
        go_wp2_with fail
        go_ret2
        exact ⟨rfl, (b1.trans (B.mono (by rw [HG0.out]; exact hsz)))⟩
set_option maxHeartbeats 4000000 in
theorem searchC_any (s : Value) (l : List Ce) (c : Ce) (BB : Bool) (t : Nat) (w : World) (hs : SlAt s l w) (hbig : l.length ≤ 1000000) (ht : t ≤ l.length)
    (h1 : ∀ i, i < t → cmpCe (l.getD i Ce.zero) c < 0) (h2 : ∀ i, t ≤ i → i < l.length → 0 ≤ cmpCe (l.getD i Ce.zero) c) (hB : BB = decide (t < l.length ∧ cmpCe (l.getD t Ce.zero) c = 0)) :
    Calls Try.prog 29 #[s, ceVal c, .func (.func 30) #[] #[]] w fun e w' => e = .returned (.tuple #[.int .i64 t, .bool BB]) ∧ Below w.heap.size w w' := by
  obtain ⟨A, cap, rfl, g1, g2, -⟩ := id hs
  unfold maxLen at g2
  have HS := Lib.hid hs
  have H1 := Lib.hid h1
  have H2 := Lib.hid h2
  have HB := Lib.hid hB
  obtain ⟨n, hn⟩ : ∃ n, l.length = n := ⟨_, rfl⟩
  have HN := Lib.hid hn
  rw [hn] at g1 hbig ht HS ⊢
  clear hs h1 h2 hn hB
  have q1 := CeAt.boxed c w
  have b1 := (Below.refl w.heap.size w).alloc (Nat.le_refl _) (boxC c)
  have HS := Lib.hid (HS.out.later b1)
  unfold boxC at q1 b1 HS
  unfold ceVal
  go_enter Try.func29, Try.ntmps29
  go_wp2_with fail
  generalize w.alloc _ = w1 at *
  have hsz := Nat.le_of_lt q1.lt
  generalize hg0 : w.heap.size = g at q1 hsz ⊢
  have HG0 := Lib.hid hg0
  clear hg0
  go_loopw [9, 10] (fun i j wr => ∃ (a z : Nat), i = .int .i64 a ∧ j = .int .i64 z ∧ a ≤ t ∧ t ≤ z ∧ z ≤ n ∧ Below w1.heap.size w1 wr) (fun i j _ => (intOf j).toNat - (intOf i).toNat)
  case atStart => exact ⟨0, n, rfl, rfl, by omega, ht, Nat.le_refl _, Below.refl _ _⟩
  case round =>
    obtain ⟨a, z, rfl, rfl, ha, hz, hzn, hb⟩ := hrel
    have q2 := q1.later hb q1.lt
    obtain ⟨y0, y1, y2⟩ := q2.cell
    have lt2 := q2.lt
    clear q2
    by_cases hlt : a < z
    · go_upto_region 5 with fail
      obtain ⟨h, hh⟩ : ∃ h : Nat, ((a : Int) + z) / 2 = h := ⟨((a + z) / 2 : Nat), by omega⟩
      have h3 : a ≤ h := by omega
      have h4 : h < z := by omega
      rw [hh]
      clear hh
      obtain ⟨b', o', rfl, hrow⟩ := (HS.out.later hb).row (by have := (show h < l.length from (by rw [HN.out]; omega)); omega)
      obtain ⟨x0, x1, x2⟩ := hrow.cells (i := h) (by rw [HN.out]; omega)
      have hlb := hrow.1
      have cc := fun ex => compare_any (l.getD h Ce.zero) c (wr.more ex)
      clear hrow
      unfold ceVal at cc
      by_cases hht : h < t
      · have hr := H1.out h hht
        obtain ⟨d, hd⟩ : ∃ d, l.getD h Ce.zero = d := ⟨_, rfl⟩
        rw [hd] at x0 x1 x2 cc hr
        obtain ⟨r, hr0⟩ : ∃ r, cmpCe d c = r := ⟨_, rfl⟩
        rw [hr0] at cc hr
        have e1 : decide (r < 0) = true := decide_eq_true (by omega)
        clear hd hr0 hr
        have CC := Lib.hid cc
        clear cc
        refine wp_region_more (by kernel_rfl) (by kernel_rfl) ?_
        repeat (go_big_quiet_step (fail))
        go_big_quiet_step (exact Calls.more (CC.out _))
        repeat (go_big_quiet_step (fail))
        refine wpQuiet_nil ?_
        rintro _ ⟨ex, rfl⟩
        have b2 := World.below_more wr ex
        clear CC
        generalize wr.more ex = w2 at *
        have B := btP hb b2
        go_wp2_with fail
        go_roundw
        case rel => exact ⟨h + 1, z, by go_num, rfl, by omega, by omega, by omega, B⟩
        case measure => simp [intOf]; omega
      · have hr := H2.out h (by omega) (by rw [HN.out]; omega)
        obtain ⟨d, hd⟩ : ∃ d, l.getD h Ce.zero = d := ⟨_, rfl⟩
        rw [hd] at x0 x1 x2 cc hr
        obtain ⟨r, hr0⟩ : ∃ r, cmpCe d c = r := ⟨_, rfl⟩
        rw [hr0] at cc hr
        have e1 : decide (r < 0) = false := decide_eq_false (by omega)
        clear hd hr0 hr
        have CC := Lib.hid cc
        clear cc
        refine wp_region_more (by kernel_rfl) (by kernel_rfl) ?_
        repeat (go_big_quiet_step (fail))
        go_big_quiet_step (exact Calls.more (CC.out _))
        repeat (go_big_quiet_step (fail))
        refine wpQuiet_nil ?_
        rintro _ ⟨ex, rfl⟩
        have b2 := World.below_more wr ex
        clear CC
        generalize wr.more ex = w2 at *
        have B := btP hb b2
        go_wp2_with fail
        go_roundw
        case rel => exact ⟨a, h, rfl, rfl, by omega, by omega, by omega, B⟩
        case measure => simp [intOf]; omega
    · obtain rfl : a = t := by omega
      obtain rfl : z = a := by omega
      go_upto_region 8 with fail
      by_cases hzt : z < n
      · have hr := H2.out z (Nat.le_refl _) (by rw [HN.out]; exact hzt)
        obtain ⟨b', o', rfl, hrow⟩ := (HS.out.later hb).row (by have := (show z < l.length from (by rw [HN.out]; exact hzt)); omega)
        obtain ⟨x0, x1, x2⟩ := hrow.cells (i := z) (by rw [HN.out]; exact hzt)
        have hlb := hrow.1
        have cc := fun ex => compare_any (l.getD z Ce.zero) c (wr.more ex)
        clear hrow
        unfold ceVal at cc
        obtain ⟨d, hd⟩ : ∃ d, l.getD z Ce.zero = d := ⟨_, rfl⟩
        rw [hd] at x0 x1 x2 cc hr
        obtain ⟨r, hr0⟩ : ∃ r, cmpCe d c = r := ⟨_, rfl⟩
        rw [hr0] at cc hr
        have HB2 := Lib.hid (show (r == 0) = BB by rw [HB.out, hd, hr0]; rcases Decidable.em (r = 0) with h0 | h0 <;> simp [h0, HN.out, hzt])
        clear hd hr0 hr
        have CC := Lib.hid cc
        clear cc
        refine wp_region_more (by kernel_rfl) (by kernel_rfl) ?_
        repeat (go_big_quiet_step (fail))
        go_big_quiet_step (exact Calls.more (CC.out _))
        repeat (go_big_quiet_step (fail))
        refine wpQuiet_nil ?_
        rintro _ ⟨ex, rfl⟩
        have b2 := World.below_more wr ex
        clear CC
        generalize wr.more ex = w2 at *
        have B := btP hb b2
        go_wp2_with fail
        go_ret2
        exact ⟨ret2 rfl (by first | (rw [← HB2.out]; rfl) | (rw [← HBn.out]; rfl)), (b1.trans (B.mono (by rw [HG0.out]; exact hsz)))⟩
      · have e1 : decide (z < n) = false := decide_eq_false hzt
        have HBn := Lib.hid (show false = BB by rw [HB.out, HN.out]; simp [hzt])
        refine wp_region_more (by kernel_rfl) (by kernel_rfl) ?_
        repeat (go_big_quiet_step (fail))
        refine wpQuiet_nil ?_
        rintro _ ⟨ex, rfl⟩
        have b2 := World.below_more wr ex
        generalize wr.more ex = w2 at *
        have B := btP hb b2
        go_wp2_with fail
        go_ret2
        exact ⟨ret2 rfl (by first | (rw [← HB2.out]; rfl) | (rw [← HBn.out]; rfl)), (b1.trans (B.mono (by rw [HG0.out]; exact hsz)))⟩
set_option maxHeartbeats 4000000 in
theorem searchK_any (s : Value) (l : List Ce) (key : List UInt8) (t : Nat) (w : World) (hs : SlAt s l w) (hbig : l.length ≤ 1000000) (ht : t ≤ l.length)
    (h1 : ∀ i, i < t → Op.bytesLess (l.getD i Ce.zero).k key = true) (h2 : ∀ i, t ≤ i → i < l.length → Op.bytesLess (l.getD i Ce.zero).k key = false) :
    Calls Try.prog 64 #[s, .string ⟨key.toArray⟩, .func (.func 65) #[] #[]] w fun e w' => e = .returned (.tuple #[.int .i64 t, .bool false]) ∧ Below w.heap.size w w' := by
  obtain ⟨A, cap, rfl, g1, g2, -⟩ := id hs
  unfold maxLen at g2
  have HS := Lib.hid hs
  have H1 := Lib.hid h1
  have H2 := Lib.hid h2
  obtain ⟨n, hn⟩ : ∃ n, l.length = n := ⟨_, rfl⟩
  have HN := Lib.hid hn
  rw [hn] at g1 hbig ht HS ⊢
  clear hs h1 h2 hn 
  have b1 := Below.refl w.heap.size w
  go_enter Try.func64, Try.ntmps64
  go_wp2_with fail
  have hsz := Nat.le_refl w.heap.size
  go_loopw [9, 10] (fun i j wr => ∃ (a z : Nat), i = .int .i64 a ∧ j = .int .i64 z ∧ a ≤ t ∧ t ≤ z ∧ z ≤ n ∧ Below w.heap.size w wr) (fun i j _ => (intOf j).toNat - (intOf i).toNat)
  case atStart => exact ⟨0, n, rfl, rfl, by omega, ht, Nat.le_refl _, Below.refl _ _⟩
  case round =>
    obtain ⟨a, z, rfl, rfl, ha, hz, hzn, hb⟩ := hrel
    by_cases hlt : a < z
    · go_upto_region 5 with fail
      obtain ⟨h, hh⟩ : ∃ h : Nat, ((a : Int) + z) / 2 = h := ⟨((a + z) / 2 : Nat), by omega⟩
      have h3 : a ≤ h := by omega
      have h4 : h < z := by omega
      rw [hh]
      clear hh
      obtain ⟨b', o', rfl, hrow⟩ := (HS.out.later hb).row (by have := (show h < l.length from (by rw [HN.out]; omega)); omega)
      obtain ⟨x0, x1, x2⟩ := hrow.cells (i := h) (by rw [HN.out]; omega)
      have hlb := hrow.1
      have cc := fun W => keyCmp_any (l.getD h Ce.zero) key W
      clear hrow
      unfold ceVal at cc
      by_cases hht : h < t
      · have hr := H1.out h hht
        rw [show keyCmp (l.getD h Ce.zero) key = -1 from by unfold keyCmp; rw [hr]; rfl] at cc
        generalize l.getD h Ce.zero = d at *
        clear hr
        have CC := Lib.hid cc
        clear cc
        go_wp2_with fail
        refine (CC.out _).mono ?_
        rintro e w2 ⟨rfl, b2⟩
        have B := btP hb b2
        clear CC
        go_wp2_with fail
        go_roundw
        case rel => exact ⟨h + 1, z, by go_num, rfl, by omega, by omega, by omega, B⟩
        case measure => simp [intOf]; omega
      · have hr := H2.out h (by omega) (by rw [HN.out]; omega)
        rw [show keyCmp (l.getD h Ce.zero) key = 1 from by unfold keyCmp; rw [hr]; rfl] at cc
        generalize l.getD h Ce.zero = d at *
        clear hr
        have CC := Lib.hid cc
        clear cc
        go_wp2_with fail
        refine (CC.out _).mono ?_
        rintro e w2 ⟨rfl, b2⟩
        have B := btP hb b2
        clear CC
        go_wp2_with fail
        go_roundw
        case rel => exact ⟨a, h, rfl, rfl, by omega, by omega, by omega, B⟩
        case measure => simp [intOf]; omega
    · obtain rfl : a = t := by omega
      obtain rfl : z = a := by omega
      go_upto_region 8 with fail
      by_cases hzt : z < n
      · have hr := H2.out z (Nat.le_refl _) (by rw [HN.out]; exact hzt)
        obtain ⟨b', o', rfl, hrow⟩ := (HS.out.later hb).row (by have := (show z < l.length from (by rw [HN.out]; exact hzt)); omega)
        obtain ⟨x0, x1, x2⟩ := hrow.cells (i := z) (by rw [HN.out]; exact hzt)
        have hlb := hrow.1
        have cc := fun W => keyCmp_any (l.getD z Ce.zero) key W
        clear hrow
        unfold ceVal at cc
        rw [show keyCmp (l.getD z Ce.zero) key = 1 from by unfold keyCmp; rw [hr]; rfl] at cc
        generalize l.getD z Ce.zero = d at *
        clear hr
        have CC := Lib.hid cc
        clear cc
        go_wp2_with fail
        refine (CC.out _).mono ?_
        rintro e w2 ⟨rfl, b2⟩
        have B := btP hb b2
        clear CC
        go_wp2_with fail
        go_ret2
        exact ⟨rfl, B⟩
      · have e1 : decide (z < n) = false := decide_eq_false hzt
        have B := hb
        go_wp2_with fail
        go_ret2
        exact ⟨rfl, B⟩
end Go.Proofs.Ytpcapifjbhaeeaa
