/- The walk of MemoryOrder. -/
import Derived.Test.YtpcapifjbhaeeaaMemO
import Derived.StillTailTactics
import Derived.Deep.RegionWith
namespace Go.Proofs.Ytpcapifjbhaeeaa
set_option maxRecDepth 16000
open Go.RowKit Spoor
set_option linter.unusedVariables false

def swapC (l : List Ce) (a b : Nat) : List Ce := (l.set a (l.getD b Ce.zero)).set b (l.getD a Ce.zero)
theorem swap_length (l : List Ce) (a b : Nat) : (swapC l a b).length = l.length := by simp [swapC]
/-- a block that holds the cells, and may be written -/
def RowW (g cap : Nat) (l : List Ce) (w : World) : Prop := ∃ cur : Array Value, w.heap[g]? = some (.cells cur 33 (0, 0)) ∧ cur.size = cap * 3 ∧ l.length ≤ cap ∧ ∀ i, i < l.length → ∀ j, j < 3 → cur[i * 3 + j]? = (ceRow (l.getD i Ce.zero))[j]?
theorem RowW.row {g cap : Nat} {l : List Ce} {w : World} (h : RowW g cap l w) : RowAt g 0 l w := by
  obtain ⟨cur, h1, h2, h3, h4⟩ := h
  refine ⟨(Array.getElem?_eq_some_iff.1 h1).1, fun i hi j v hv => ?_⟩
  have hj : j < 3 := by
    have := (List.getElem?_eq_some_iff.1 hv).1
    simpa [ceRow] using this
  rw [cell_of_row w g _ _ _ _ h1, Nat.zero_add, h4 i hi j hj]
  exact hv
theorem RowW.free {g cap : Nat} {l : List Ce} {w : World} (h : RowW g cap l w) (o : Nat) : w.frozen? ⟨g, o, none⟩ = false := by
  obtain ⟨cur, h1, _⟩ := h
  simp [World.frozen?, h1]
theorem RowW.put {g cap : Nat} {l : List Ce} {w : World} (h : RowW g cap l w) {k : Nat} (hk : k < l.length) (c : Ce) :
    RowW g cap (l.set k c) (((w.setCell ⟨g, k * 3, none⟩ (.string ⟨c.k.toArray⟩)).setCell ⟨g, k * 3 + 1, none⟩ (.int .i64 c.q)).setCell ⟨g, k * 3 + 2, none⟩ (.string ⟨c.v.toArray⟩)) := by
  obtain ⟨cur, h1, h2, h3, h4⟩ := h
  have a1 := heap_setCell_same w g (k * 3) _ _ (.string ⟨c.k.toArray⟩) h1
  have a2 := heap_setCell_same _ g (k * 3 + 1) _ _ (.int .i64 c.q) a1
  have a3 := heap_setCell_same _ g (k * 3 + 2) _ _ (.string ⟨c.v.toArray⟩) a2
  refine ⟨_, a3, by simpa using h2, by simpa using h3, fun i hi j hj => ?_⟩
  rw [List.length_set] at hi
  simp only [Array.getElem?_setIfInBounds, Array.size_setIfInBounds]
  by_cases e : i = k
  · subst e
    have hg : (l.set i c).getD i Ce.zero = c := by simp [List.getD, hi]
    rw [hg]
    rcases (by omega : j = 0 ∨ j = 1 ∨ j = 2) with rfl | rfl | rfl
    · rw [if_neg (by omega), if_neg (by omega), if_pos (by omega), if_pos (by omega)]; rfl
    · rw [if_neg (by omega), if_pos (by omega), if_pos (by omega)]; rfl
    · rw [if_pos (by omega), if_pos (by omega)]; rfl
  · have hg : (l.set k c).getD i Ce.zero = l.getD i Ce.zero := by simp [List.getD, List.getElem?_set, Ne.symm e]
    rw [hg, if_neg (by omega), if_neg (by omega), if_neg (by omega)]
    exact h4 i hi j hj
theorem rowW_own {w : World} {base : Nat} {v : Value} {l : List Ce} (h : w.ownsRow base 33 3 v l.length (rowOf l)) (hl : 0 < l.length) : ∃ g cap, v = .slice (some ⟨g, 0, none⟩) l.length cap ∧ base ≤ g ∧ l.length ≤ cap ∧ cap ≤ maxLen ∧ RowW g cap l w := by
  rcases h.2 with ⟨_, h0⟩ | ⟨g, cap, cur, rfl, hb, hg, hn, hm, hc, ht⟩
  · omega
  · refine ⟨g, cap, rfl, hb, hn, hm, cur, hg, hc, hn, fun i hi j hj => ?_⟩
    have h1 : (cur.toList.take (l.length * 3))[i * 3 + j]? = (ceRow (l.getD i Ce.zero))[j]? := by rw [ht]; exact rowOf_at l i j hi hj
    rw [List.getElem?_take, if_pos (by omega)] at h1
    simpa using h1
theorem RowW.later {g cap : Nat} {l : List Ce} {w w' : World} (h : RowW g cap l w) (hb : Below w.heap.size w w') : RowW g cap l w' := by
  obtain ⟨cur, h1, h2⟩ := h
  exact ⟨cur, by rw [hb.block g (Array.getElem?_eq_some_iff.1 h1).1]; exact h1, h2⟩
theorem swap_perm {l : List Ce} {a b : Nat} (ha : a < l.length) (hb : b < l.length) : (swapC l a b).Perm l := by
  have h := List.set_set_perm ha hb
  have e1 : l.getD a Ce.zero = l[a] := by simp [List.getD, ha]
  have e2 : l.getD b Ce.zero = l[b] := by simp [List.getD, hb]
  unfold swapC
  rw [e1, e2]
  exact h
theorem RowW.sl {g cap : Nat} {l : List Ce} {w : World} (h : RowW g cap l w) (hm : cap ≤ maxLen) {n : Nat} (hn : l.length = n) : SlAt (.slice (some ⟨g, 0, none⟩) n cap) l w := by
  obtain ⟨cur, h1, h2, h3, h4⟩ := id h
  subst hn
  exact ⟨_, cap, rfl, h3, hm, fun _ => ⟨g, 0, rfl, h.row⟩⟩
theorem RowAt.dropSl {b o cap K : Nat} {l : List Ce} {w : World} (h : RowAt b o l w) (hK : K ≤ l.length) (hc : l.length ≤ cap) (hm : cap ≤ maxLen) {n : Nat} (hn : l.length = n) : SlAt (.slice (some ⟨b, o + K * 3, none⟩) (n - K) (cap - K)) (l.drop K) w := by
  subst hn
  have hp := h.part K (l.length - K) (by omega)
  rw [List.take_of_length_le (by rw [List.length_drop]; exact Nat.le_refl _)] at hp
  exact ⟨_, cap - K, by rw [List.length_drop], by rw [List.length_drop]; omega, Nat.le_trans (Nat.sub_le _ _) hm, fun _ => ⟨b, o + K * 3, rfl, hp⟩⟩
theorem RowAt.takeSl {b o cap K : Nat} {l : List Ce} {w : World} (h : RowAt b o l w) (hK : K ≤ l.length) (hc : l.length ≤ cap) (hm : cap ≤ maxLen) : SlAt (.slice (some ⟨b, o, none⟩) K cap) (l.take K) w := by
  have hp := h.part 0 K (by omega)
  rw [List.drop_zero, Nat.zero_mul, Nat.add_zero] at hp
  have hl : (l.take K).length = K := by rw [List.length_take]; omega
  exact ⟨_, cap, by rw [hl], by omega, hm, fun _ => ⟨b, o, rfl, hp⟩⟩
theorem unlike_of {l : List Ce} (h : ∀ a b, a < b → b < l.length → sameC (l.getD a Ce.zero) (l.getD b Ce.zero) = false) : Unlike l := by
  unfold Unlike
  rw [List.pairwise_iff_getElem]
  intro i j hi hj hij
  have := h i j hij hj
  simpa [List.getD, hi, hj] using this
set_option maxRecDepth 100000 in
set_option maxHeartbeats 8000000 in
theorem memoryOrder_yes (w : World) (v : Value) (l : List Ce) (x : Int) (back : Bool) (hs : SlAt v l w) (hw : ∀ c ∈ l, WfC c) (hg : greatL l 200 = false) (h0 : 0 < l.length) (hx0 : 0 ≤ x) (hx1 : x ≤ 255) :
    Calls Try.prog 5 #[v, .int .u8 x, .bool back] w fun e w' => e = .returned (.bool true) ∧ Below w.heap.size w w' := by
  have cg := greatL_any v l 200 w hs hw (by omega)
  rw [hg] at cg
  have hf := fits_great hg hw
  have hlen := (great_yes hg).1
  have CG := Lib.hid cg
  have HF := Lib.hid hf
  have HS0 := Lib.hid hs
  obtain ⟨A, cap, rfl, hc1, hc2, hrow⟩ := hs
  obtain ⟨b, o, rfl, hr⟩ := hrow h0
  have HR := Lib.hid hr
  have hc3 : cap ≤ 9223372036854775807 := by unfold maxLen at hc2; omega
  have HM := Lib.hid hc2
  obtain ⟨n, hn⟩ : ∃ n, l.length = n := ⟨_, rfl⟩
  have HN := Lib.hid hn
  rw [hn] at hc1 h0 hlen CG ⊢
  have hz : ((n : Int) == 0) = false := by rw [beq_eq_false_iff_ne]; omega
  clear cg hf hg hw hc2 hrow hr hn
  go_enter Try.func5, Try.ntmps5
  go_wp2_with fail
  refine CG.out.mono ?_
  rintro e w1 ⟨rfl, b1⟩
  clear CG
  go_wp2_with fail
  go_loopw [7] (fun i wr => ∃ k : Nat, i = .int .i64 k ∧ k ≤ n ∧ Hid (∀ a b, a < b → b < k → sameC (l.getD a Ce.zero) (l.getD b Ce.zero) = false) ∧ Below w.heap.size w wr) (fun i _ => n - (intOf i).toNat)
  case atStart => exact ⟨0, rfl, by omega, Lib.hid (fun a b _ h => by omega), b1⟩
  case round =>
    obtain ⟨k, rfl, hk, HU, B⟩ := hrel
    by_cases hlt : k < n
    · have hkl : k < l.length := by rw [HN.out]; exact hlt
      clear b1
      go_wp2_with fail
      go_loopw [8] (fun i wq => ∃ m : Nat, i = .int .i64 m ∧ m ≤ k ∧ Hid (∀ a, a < m → sameC (l.getD a Ce.zero) (l.getD k Ce.zero) = false) ∧ Below w.heap.size w wq) (fun i _ => k - (intOf i).toNat)
      case atStart => exact ⟨0, rfl, by omega, Lib.hid (fun a h => by omega), B⟩
      case round =>
        obtain ⟨m, rfl, hm, HV, B2⟩ := hrel
        by_cases hlt2 : m < k
        · have hml : m < l.length := by omega
          have hrow := HR.out.later B2 HR.out.1
          obtain ⟨x0, x1, -⟩ := hrow.cells hml
          obtain ⟨y0, y1, -⟩ := hrow.cells hkl
          obtain ⟨c, hc⟩ : ∃ c, l.getD m Ce.zero = c := ⟨_, rfl⟩
          obtain ⟨d, hd⟩ : ∃ d, l.getD k Ce.zero = d := ⟨_, rfl⟩
          rw [hc] at x0 x1
          rw [hd] at y0 y1
          have HCD := Lib.hid (And.intro hc hd)
          clear hrow hc hd
          by_cases hs : sameC c d = true
          · have hs2 := hs
            unfold sameC at hs2
            rw [Bool.and_eq_true, decide_eq_true_iff, decide_eq_true_iff] at hs2
            have e1 : (c.k == d.k) = true := by rw [beq_iff_eq]; exact hs2.1
            have e2 : (c.q == d.q) = true := by rw [beq_iff_eq]; exact hs2.2
            clear hs hs2
            go_wp2_with fail
            go_quiet (fail)
            have B3 : Below w.heap.size w (wr.drewN nq) := B2.trans ((below_drewN (Below.refl _ _) nq).mono B2.size)
            clear B B2 HCD HV HU
            generalize wr.drewN nq = wz at *
            go_wp2_with fail
            refine (mdoes_true _).mono ?_
            rintro e w9 ⟨rfl, b9⟩
            have B9 := btP B3 b9
            go_wp2_with fail
            go_ret
            exact ⟨rfl, B9⟩
          · have hs2 : sameC c d = false := by simpa using hs
            have hV2 : ∀ a, a < m + 1 → sameC (l.getD a Ce.zero) (l.getD k Ce.zero) = false := fun a ha => by
              rcases Nat.lt_or_ge a m with h | h
              · exact HV.out a h
              · obtain rfl : a = m := by omega
                rw [HCD.out.1, HCD.out.2]
                exact hs2
            have HV2 := Lib.hid hV2
            clear hV2 hs HV HCD
            unfold sameC at hs2
            by_cases hkk : c.k = d.k
            · have e1 : (c.k == d.k) = true := by rw [beq_iff_eq]; exact hkk
              have e2 : (c.q == d.q) = false := by
                rw [beq_eq_false_iff_ne]
                intro e
                simp [hkk, e] at hs2
              clear hs2 hkk
              go_wp2_with fail
              go_quiet (fail)
              have B3 : Below w.heap.size w (wr.drewN nq) := B2.trans ((below_drewN (Below.refl _ _) nq).mono B2.size)
              clear B B2 HU x0 x1 y0 y1
              generalize wr.drewN nq = wz at *
              go_wp2_with fail
              go_roundw
              case rel => exact ⟨m + 1, rfl, by omega, Lib.hid HV2.out, B3⟩
              case measure => simp [intOf]; omega
            · have e1 : (c.k == d.k) = false := by rw [beq_eq_false_iff_ne]; exact hkk
              clear hs2 hkk
              go_wp2_with fail
              go_quiet (fail)
              have B3 : Below w.heap.size w (wr.drewN nq) := B2.trans ((below_drewN (Below.refl _ _) nq).mono B2.size)
              clear B B2 HU x0 x1 y0 y1
              generalize wr.drewN nq = wz at *
              go_wp2_with fail
              go_roundw
              case rel => exact ⟨m + 1, rfl, by omega, Lib.hid HV2.out, B3⟩
              case measure => simp [intOf]; omega
        · obtain rfl : m = k := by omega
          have hU2 : ∀ a b, a < b → b < m + 1 → sameC (l.getD a Ce.zero) (l.getD b Ce.zero) = false := fun a b hab hb => by
            rcases Nat.lt_or_ge b m with h | h
            · exact HU.out a b hab h
            · obtain rfl : b = m := by omega
              exact HV.out a hab
          have HU2 := Lib.hid hU2
          clear hU2 HU HV B
          go_wp2_with fail
          go_roundw
          case rel => exact ⟨m + 1, rfl, by omega, Lib.hid HU2.out, B2⟩
          case measure => simp [intOf]; omega
    · obtain rfl : k = n := by omega
      have hun : Unlike l := unlike_of (fun a b hab hb => HU.out a b hab (by rw [← HN.out]; exact hb))
      have HUN := Lib.hid hun
      clear hun HU b1
      obtain ⟨K, hK, hKn⟩ : ∃ K : Nat, x.tmod (k : Int) = (K : Int) ∧ K < k := by
        refine ⟨(x.tmod (k : Int)).toNat, ?_, ?_⟩
        · have := Int.tmod_nonneg (k : Int) hx0
          omega
        · have := Int.tmod_nonneg (k : Int) hx0
          have := Int.tmod_lt_of_pos x (show (0 : Int) < (k : Int) by omega)
          omega
      have hK1 : (0 : Int) ≤ (K : Int) := by omega
      have hK2 : (K : Int) ≤ (k : Int) := by omega
      have hK3 : (K : Int) ≤ (cap : Int) := by omega
      have hK4 : K ≤ cap := by omega
      have hK5 : K ≤ k := by omega
      have hK6 : ¬ (cap = K) := by omega
      go_wp2_with fail
      have HB := Lib.hid (B.trans ((Below.drew (Below.refl _ wr)).mono B.size))
      clear B
      refine (wpIn_wide (n := 5)).1 ?_
      refine wpIn_region_lit_late (fun _ => True) (fun _ => false) (k := 10) (listed := #[false, false, false, false, false, false, false, false, false, false]) (by kernel_rfl) (by kernel_rfl) (by kernel_rfl) ?_
      generalize wr.drew = wz at *
      have hS : True := trivial
      refine AnyS.get (i := 1) (some 62) ?_ rfl rfl (by kernel_rfl) (by kernel_rfl) (by kernel_rfl) (by kernel_rfl) (fun _ _ _ h => h) (Reads.yes (by kernel_rfl) ?_ (fun _ => rfl)) hS ?_
      rotate_left
      · intro w' hw'
        go_simp
        with_reducible rfl
      simp only [Act.put, List.setIfInBounds_toArray, List.set_cons_succ, List.set_cons_zero]
      refine AnyS.get (i := 2) (some 63) ?_ rfl rfl (by kernel_rfl) (by kernel_rfl) (by kernel_rfl) (by kernel_rfl) (fun _ _ _ h => h) (Reads.yes (by kernel_rfl) ?_ (fun _ => rfl)) hS ?_
      rotate_left
      · intro w' hw'
        go_simp
        with_reducible rfl
      simp only [Act.put, List.setIfInBounds_toArray, List.set_cons_succ, List.set_cons_zero]
      refine AnyS.get (i := 3) (some 64) ?_ rfl rfl (by kernel_rfl) (by kernel_rfl) (by kernel_rfl) (by kernel_rfl) (fun _ _ _ h => h) (Reads.yes (by kernel_rfl) ?_ (fun _ => rfl)) hS ?_
      rotate_left
      · intro w' hw'
        go_simp
        with_reducible rfl
      simp only [Act.put, List.setIfInBounds_toArray, List.set_cons_succ, List.set_cons_zero]
      refine AnyS.get (i := 5) (some 66) ?_ rfl rfl (by kernel_rfl) (by kernel_rfl) (by kernel_rfl) (by kernel_rfl) (fun _ _ _ h => h) (Reads.yes (by kernel_rfl) ?_ (fun _ => rfl)) hS ?_
      rotate_left
      · intro w' hw'
        go_simp
        with_reducible rfl
      simp only [Act.put, List.setIfInBounds_toArray, List.set_cons_succ, List.set_cons_zero]
      refine AnyS.get (i := 6) (some 67) ?_ rfl rfl (by kernel_rfl) (by kernel_rfl) (by kernel_rfl) (by kernel_rfl) (fun _ _ _ h => h) (Reads.yes (by kernel_rfl) ?_ (fun _ => rfl)) hS ?_
      rotate_left
      · intro w' hw'
        go_simp
        with_reducible rfl
      simp only [Act.put, List.setIfInBounds_toArray, List.set_cons_succ, List.set_cons_zero]
      refine AnyS.get (i := 7) (some 68) ?_ rfl rfl (by kernel_rfl) (by kernel_rfl) (by kernel_rfl) (by kernel_rfl) (fun _ _ _ h => h) (Reads.yes (by kernel_rfl) ?_ (fun _ => rfl)) hS ?_
      rotate_left
      · intro w' hw'
        go_simp
        with_reducible rfl
      simp only [Act.put, List.setIfInBounds_toArray, List.set_cons_succ, List.set_cons_zero]
      refine AnyS.next (i := 0) rfl (by kernel_rfl) (by kernel_rfl) fun K' hK' => ?_
      refine want_yes (by kernel_rfl) ?_
      go_simp
      have n1 := (Below.refl wz.heap.size wz).alloc (Nat.le_refl _) (.cells #[] 33)
      have rz := HR.out.later HB.out HR.out.1
      have rz1 := rz.later n1 rz.1
      obtain ⟨v7, w7, run7, own7, b7⟩ := run_append_sl (own_none wz) n1.size (rz1.dropSl (K := K) (by rw [HN.out]; omega) (by rw [HN.out]; exact hc1) HM.out HN.out) (by have := HN.out; simp only [List.length_nil, List.length_drop]; omega)
      rw [List.nil_append] at own7
      have n7 := n1.trans b7
      obtain ⟨v8, w8, run8, own8, b8⟩ := run_append_sl own7 n7.size ((rz.later n7 rz.1).takeSl (K := K) (by rw [HN.out]; omega) (by rw [HN.out]; exact hc1) HM.out) (by have := HN.out; simp only [List.length_take, List.length_drop]; omega)
      have B8 := HB.out.trans ((n7.trans b8).mono HB.out.size)
      refine hK' _ _ (fun _ => trivial) ?_
      clear hK' K'
      simp only [List.setIfInBounds_toArray, List.set_cons_succ, List.set_cons_zero]
      refine AnyS.next (i := 4) rfl (by kernel_rfl) (by kernel_rfl) fun K' hK' => ?_
      refine want_yes (by kernel_rfl) ?_
      simp only [List.getElem_toArray, List.getElem_cons_succ, List.getElem_cons_zero]
      refine opIn_value _ (fun c h => by cases h) rfl (exec_append (s := .tmp 61) (x := .tmp 64) rfl rfl rfl run7) ?_
      refine hK' _ _ (fun _ => trivial) ?_
      clear hK' K'
      simp only [Act.put, List.setIfInBounds_toArray, List.set_cons_succ, List.set_cons_zero]
      refine AnyS.next (i := 8) rfl (by kernel_rfl) (by kernel_rfl) fun K' hK' => ?_
      refine want_yes (by kernel_rfl) ?_
      simp only [List.getElem_toArray, List.getElem_cons_succ, List.getElem_cons_zero]
      refine opIn_value _ (fun c h => by cases h) rfl (exec_append (s := .tmp 65) (x := .tmp 68) rfl rfl rfl run8) ?_
      refine hK' _ _ (fun _ => trivial) ?_
      clear hK' K'
      simp only [Act.put, List.setIfInBounds_toArray, List.set_cons_succ, List.set_cons_zero]
      refine AnyS.get (i := 9) (some 10) ?_ rfl rfl (by kernel_rfl) (by kernel_rfl) (by kernel_rfl) (by kernel_rfl) (fun _ _ _ h => h) (Reads.yes (by kernel_rfl) ?_ (fun _ => rfl)) hS ?_
      rotate_left
      · intro w' hw'
        go_simp
        with_reducible rfl
      simp only [Act.put, List.setIfInBounds_toArray, List.set_cons_succ, List.set_cons_zero]
      refine AnyS.done (by kernel_rfl) ?_ _
      obtain ⟨m0, hm0⟩ : ∃ m0, l.drop K ++ l.take K = m0 := ⟨_, rfl⟩
      have hp0 : l.Perm m0 := hm0 ▸ turn_perm l K
      have hml : m0.length = k := by rw [← hp0.length_eq]; exact HN.out
      rw [hm0] at own8
      obtain ⟨g, cap3, rfl, hbg, hc4, hm3, hw3⟩ := rowW_own own8 (by omega)
      rw [hml] at hc4 ⊢
      have hgw : w.heap.size ≤ g := Nat.le_trans HB.out.size hbg
      have HP := Lib.hid (And.intro hp0 hml)
      have HM3 := Lib.hid hm3
      unfold maxLen at hm3
      have HW := Lib.hid hw3
      have HB8 := Lib.hid B8
      clear run7 run8 own7 own8 b7 b8 n1 n7 rz rz1 hm0 hp0 hml hw3 B8 HB hK
      cases back with
      | false =>
        have HWW := Lib.hid (And.intro HP.out.1 (And.intro HP.out.2 HW.out))
        have HBW := HB8
        clear HW HB8
        have hr1 := HR.out.later HBW.out HR.out.1
        have hs1 : SlAt (.slice (some ⟨b, o, none⟩) k cap) l w8 := by
          have h := hr1.takeSl (K := k) (by rw [HN.out]; omega) (by rw [HN.out]; exact hc1) HM.out
          rwa [← HN.out, List.take_length, HN.out] at h
        have pu := put_any _ l w8 hs1 (by rw [HN.out]; omega) HF.out
        have PU := Lib.hid pu
        clear hr1 hs1 pu
        go_wp2_with fail
        refine PU.out.mono ?_
        rintro e w9 ⟨p1, fs1, rfl, M1, h1, b9⟩
        have hsz := puts_length l []
        have rc := rangeM_any p1 _ fs1 [] [] w9 M1 (by have := HN.out; simp only [List.length_nil] at hsz; omega)
        have RC := Lib.hid rc
        have B9 := btP HBW.out b9
        have r9 := HWW.out.2.2.later b9
        have HG := Lib.hid (And.intro B9 r9)
        clear PU M1 h1 b9 hsz rc B9 r9
        go_wp2_with fail
        refine RC.out.mono ?_
        rintro e w10 ⟨b10, v10, rfl, own⟩
        rw [rangeC_all] at own
        have s10 := slAt_own own
        have r10 := HG.out.2.later b10
        have B10 := btP HG.out.1 b10
        have hf2 : ∀ c ∈ m0, FitsC c := fun c hc => HF.out c (HWW.out.1.mem_iff.2 hc)
        have pu := put_any _ m0 w10 (r10.sl HM3.out HWW.out.2.1) (by rw [HWW.out.2.1]; omega) hf2
        have PU := Lib.hid pu
        have HG2 := Lib.hid (And.intro B10 s10)
        clear pu hf2 own s10 r10 B10 b10 RC HG
        go_wp2_with fail
        refine PU.out.mono ?_
        rintro e w11 ⟨p2, fs2, rfl, M2, h2, b11⟩
        have hsz := puts_length m0 []
        have rc := rangeM_any p2 _ fs2 [] [] w11 M2 (by have := HWW.out.2.1; simp only [List.length_nil] at hsz; omega)
        have RC := Lib.hid rc
        have B11 := btP HG2.out.1 b11
        have s11 := HG2.out.2.later b11
        have HG := Lib.hid (And.intro B11 s11)
        clear PU M2 h2 b11 hsz rc B11 s11 HG2
        go_wp2_with fail
        refine RC.out.mono ?_
        rintro e w12 ⟨b12, v12, rfl, own⟩
        rw [rangeC_all, ← puts_perm HWW.out.1 HUN.out] at own
        have sc := sl_two _ _ _ _ (HG.out.2.later b12) _ (slAt_own own) rfl
        have SC := Lib.hid sc
        have HB12 := Lib.hid (btP HG.out.1 b12)
        clear own sc b12 RC HG
        go_wp2_with fail
        refine SC.out.mono ?_
        rintro e w13 ⟨rfl, b13⟩
        have B13 := btP HB12.out b13
        have HB13 := Lib.hid B13
        clear SC b13 B13 HB12
        go_wp2_with fail
        refine (mdoes_true _).mono ?_
        rintro e w14 ⟨rfl, b14⟩
        have B14 := btP HB13.out b14
        clear b14 HB13
        go_wp2_with fail
        go_ret
        exact ⟨rfl, B14⟩
      | true =>
        obtain ⟨h, hh⟩ : ∃ h, k / 2 = h := ⟨_, rfl⟩
        have hh2 : ((k : Int) / 2) = (h : Int) := by omega
        have hh3 : 2 * h ≤ k := by omega
        clear hh
        go_wp2_with fail
        go_loopw [11] (fun i wr => ∃ (j : Nat) (L' : List Ce), i = .int .i64 j ∧ j ≤ h ∧ Hid (l.Perm L' ∧ L'.length = k ∧ RowW g cap3 L' wr) ∧ Hid (Below w.heap.size w wr)) (fun i _ => k - (intOf i).toNat)
        case atStart => exact ⟨0, m0, rfl, by omega, Lib.hid ⟨HP.out.1, HP.out.2, HW.out⟩, Lib.hid HB8.out⟩
        case round =>
          obtain ⟨j, L', rfl, hj, HWW, HBW⟩ := hrel
          clear HW HB8
          by_cases hjh : j < h
          · obtain ⟨J, hJ⟩ : ∃ J, k - 1 - j = J := ⟨_, rfl⟩
            have hw1 : IntKind.i64.wrap ((k : Int) - 1) = (k : Int) - 1 := by rw [IntKind.wrap_i64]; omega
            have hw2 : IntKind.i64.wrap ((k : Int) - 1 - (j : Int)) = (J : Int) := by rw [IntKind.wrap_i64]; omega
            have hjJ : j < J := by omega
            have hJk : J < k := by omega
            have hjk : j < k := by omega
            clear hJ
            obtain ⟨x0, x1, x2⟩ := HWW.out.2.2.row.cells (i := J) (by rw [HWW.out.2.1]; exact hJk)
            obtain ⟨y0, y1, y2⟩ := HWW.out.2.2.row.cells (i := j) (by rw [HWW.out.2.1]; exact hjk)
            simp only [Nat.zero_add] at x0 x1 x2 y0 y1 y2
            have f0 := HWW.out.2.2.free (j * 3)
            have f1 := HWW.out.2.2.free (j * 3 + 1)
            have f2 := HWW.out.2.2.free (j * 3 + 2)
            have g0 := HWW.out.2.2.free (J * 3)
            have g1 := HWW.out.2.2.free (J * 3 + 1)
            have g2 := HWW.out.2.2.free (J * 3 + 2)
            have n0 : ¬ j * 3 = J * 3 := by omega
            have n1 : ¬ J * 3 = j * 3 := by omega
            have n2 : ¬ j * 3 = J * 3 + 1 := by omega
            have n3 : ¬ J * 3 + 1 = j * 3 := by omega
            have n4 : ¬ j * 3 = J * 3 + 2 := by omega
            have n5 : ¬ J * 3 + 2 = j * 3 := by omega
            have n6 : ¬ j * 3 + 1 = J * 3 := by omega
            have n7 : ¬ J * 3 = j * 3 + 1 := by omega
            have n8 : ¬ j * 3 + 1 = J * 3 + 1 := by omega
            have n9 : ¬ J * 3 + 1 = j * 3 + 1 := by omega
            have n10 : ¬ j * 3 + 1 = J * 3 + 2 := by omega
            have n11 : ¬ J * 3 + 2 = j * 3 + 1 := by omega
            have n12 : ¬ j * 3 + 2 = J * 3 := by omega
            have n13 : ¬ J * 3 = j * 3 + 2 := by omega
            have n14 : ¬ j * 3 + 2 = J * 3 + 1 := by omega
            have n15 : ¬ J * 3 + 1 = j * 3 + 2 := by omega
            have n16 : ¬ j * 3 + 2 = J * 3 + 2 := by omega
            have n17 : ¬ J * 3 + 2 = j * 3 + 2 := by omega
            obtain ⟨c, hc⟩ : ∃ c, L'.getD j Ce.zero = c := ⟨_, rfl⟩
            obtain ⟨d, hd⟩ : ∃ d, L'.getD J Ce.zero = d := ⟨_, rfl⟩
            rw [hd] at x0 x1 x2
            rw [hc] at y0 y1 y2
            have HCD := Lib.hid (And.intro hc hd)
            clear hc hd
            go_wp2_with fail
            go_region_with fail
            all_goals
              have r2 := ((HWW.out.2.2.put (k := j) (by rw [HWW.out.2.1]; exact hjk) d).put (k := J) (by rw [List.length_set, HWW.out.2.1]; exact hJk) c).later ((Below.refl _ _).drew)
              have b2 := (below_set (below_set (below_set (below_set (below_set (below_set HBW.out hgw (j * 3) (.string ⟨d.k.toArray⟩)) hgw (j * 3 + 1) (.int .i64 d.q)) hgw (j * 3 + 2) (.string ⟨d.v.toArray⟩)) hgw (J * 3) (.string ⟨c.k.toArray⟩)) hgw (J * 3 + 1) (.int .i64 c.q)) hgw (J * 3 + 2) (.string ⟨c.v.toArray⟩)).drew
              generalize World.drew _ = W2 at *
              have hsw : swapC L' j J = (L'.set j d).set J c := by unfold swapC; rw [HCD.out.1, HCD.out.2]
              rw [← hsw] at r2
              have hpm := HWW.out.1.trans (swap_perm (a := j) (b := J) (by rw [HWW.out.2.1]; exact hjk) (by rw [HWW.out.2.1]; exact hJk)).symm
              have HF2 := Lib.hid (And.intro hpm (And.intro (by rw [swap_length]; exact HWW.out.2.1 : (swapC L' j J).length = k) r2))
              have HB2 := Lib.hid b2
              clear hsw r2 hpm b2 x0 x1 x2 y0 y1 y2 f0 f1 f2 g0 g1 g2 n0 n1 n2 n3 n4 n5 n6 n7 n8 n9 n10 n11 n12 n13 n14 n15 n16 n17 hw1 hw2
              go_wp2_with fail
              go_roundw
              case rel => exact ⟨j + 1, swapC L' j J, rfl, by omega, Lib.hid HF2.out, Lib.hid HB2.out⟩
              case measure => simp [intOf]; omega
          · have hjh' : ¬ ((j : Int) < (h : Int)) := by omega
            have hr1 := HR.out.later HBW.out HR.out.1
            have hs1 : SlAt (.slice (some ⟨b, o, none⟩) k cap) l wr := by
              have h := hr1.takeSl (K := k) (by rw [HN.out]; omega) (by rw [HN.out]; exact hc1) HM.out
              rwa [← HN.out, List.take_length, HN.out] at h
            have pu := put_any _ l wr hs1 (by rw [HN.out]; omega) HF.out
            have PU := Lib.hid pu
            clear hr1 hs1 pu
            go_wp2_with fail
            refine PU.out.mono ?_
            rintro e w9 ⟨p1, fs1, rfl, M1, h1, b9⟩
            have hsz := puts_length l []
            have rc := rangeM_any p1 _ fs1 [] [] w9 M1 (by have := HN.out; simp only [List.length_nil] at hsz; omega)
            have RC := Lib.hid rc
            have B9 := btP HBW.out b9
            have r9 := HWW.out.2.2.later b9
            have HG := Lib.hid (And.intro B9 r9)
            clear PU M1 h1 b9 hsz rc B9 r9
            go_wp2_with fail
            refine RC.out.mono ?_
            rintro e w10 ⟨b10, v10, rfl, own⟩
            rw [rangeC_all] at own
            have s10 := slAt_own own
            have r10 := HG.out.2.later b10
            have B10 := btP HG.out.1 b10
            have hf2 : ∀ c ∈ L', FitsC c := fun c hc => HF.out c (HWW.out.1.mem_iff.2 hc)
            have pu := put_any _ L' w10 (r10.sl HM3.out HWW.out.2.1) (by rw [HWW.out.2.1]; omega) hf2
            have PU := Lib.hid pu
            have HG2 := Lib.hid (And.intro B10 s10)
            clear pu hf2 own s10 r10 B10 b10 RC HG
            go_wp2_with fail
            refine PU.out.mono ?_
            rintro e w11 ⟨p2, fs2, rfl, M2, h2, b11⟩
            have hsz := puts_length L' []
            have rc := rangeM_any p2 _ fs2 [] [] w11 M2 (by have := HWW.out.2.1; simp only [List.length_nil] at hsz; omega)
            have RC := Lib.hid rc
            have B11 := btP HG2.out.1 b11
            have s11 := HG2.out.2.later b11
            have HG := Lib.hid (And.intro B11 s11)
            clear PU M2 h2 b11 hsz rc B11 s11 HG2
            go_wp2_with fail
            refine RC.out.mono ?_
            rintro e w12 ⟨b12, v12, rfl, own⟩
            rw [rangeC_all, ← puts_perm HWW.out.1 HUN.out] at own
            have sc := sl_two _ _ _ _ (HG.out.2.later b12) _ (slAt_own own) rfl
            have SC := Lib.hid sc
            have HB12 := Lib.hid (btP HG.out.1 b12)
            clear own sc b12 RC HG
            go_wp2_with fail
            refine SC.out.mono ?_
            rintro e w13 ⟨rfl, b13⟩
            have B13 := btP HB12.out b13
            have HB13 := Lib.hid B13
            clear SC b13 B13 HB12
            go_wp2_with fail
            refine (mdoes_true _).mono ?_
            rintro e w14 ⟨rfl, b14⟩
            have B14 := btP HB13.out b14
            clear b14 HB13
            go_wp2_with fail
            go_ret
            exact ⟨rfl, B14⟩
end Go.Proofs.Ytpcapifjbhaeeaa
