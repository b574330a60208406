/- The reference's put: a text into a rising list, once. -/
import Derived.Test.YtoglloafpnopaaaGreatMgA
import Derived.Test.YtoglloafpnopaaaGreatTlL
set_option linter.unusedSimpArgs false
set_option linter.unusedVariables false
namespace Go.Proofs.YtoglloafpnopaaaGreat
set_option maxRecDepth 16000
open Go.RowKit Spoor
def strs (K : List (List UInt8)) : List Value := K.map fun s => .string ⟨s.toArray⟩
theorem strs_length (K : List (List UInt8)) : (strs K).length = K.length := by simp [strs]
def StAt (v : Value) (K : List (List UInt8)) (W : World) : Prop := (v = .slice none 0 0 ∧ K = []) ∨ ∃ b o cap, v = .slice (some ⟨b, o, none⟩) K.length cap ∧ K.length ≤ cap ∧ cap ≤ maxLen ∧ b < W.heap.size ∧ ∀ i, i < K.length → W.cell? ⟨b, o + i, none⟩ = some (.string ⟨(K.getD i []).toArray⟩)
theorem StAt.later {v : Value} {K : List (List UInt8)} {W W' : World} (h : StAt v K W) (hb : Below W.heap.size W W') : StAt v K W' := by
 rcases h with h | ⟨b, o, cap, h1, h2, h3, h4, h5⟩
 · exact .inl h
 · exact .inr ⟨b, o, cap, h1, h2, h3, Nat.lt_of_lt_of_le h4 hb.size, fun i hi => (hb.cell (p := ⟨b, o + i, none⟩) h4).trans (h5 i hi)⟩
theorem stAt_own {base : Nat} {v : Value} {K : List (List UInt8)} {W : World} (h : W.ownsRow base 9 1 v K.length (strs K)) : StAt v K W := by
 rcases h.2 with ⟨rfl, e⟩ | ⟨g, cap, cur, rfl, hg, hgb, hn, hm, hs, ht⟩
 · exact .inl ⟨rfl, List.length_eq_zero_iff.1 e⟩
 · refine .inr ⟨g, 0, cap, rfl, hn, hm, (Go.ltA hgb), fun i hi => ?_⟩
   have hc := (show W.ownsRow base 9 1 (.slice (some ⟨g, 0, none⟩) K.length cap) K.length (strs K) from h).cellAt i (by omega)
   rw [Nat.zero_add, hc]
   simp [strs, List.getD, hi]
theorem info_st : (Tryz.prog.info? 9).map (fun i => (i.zero, i.size, i.bytes)) = some (some (.string ⟨#[]⟩), 1, 16) := by kernel_rfl
theorem run_append_st {base : Nat} {v u : Value} {l m : List (List UInt8)} {w : World} (own : w.ownsRow base 9 1 v l.length (strs l)) (hb : base ≤ w.heap.size) (hu : StAt u m w) (hsz : l.length + m.length ≤ 100000) :
 ∃ v' w', (Builtin.append_ #[68, 68] 68 #[v, u]).run Tryz.prog w = .ok v' w' ∧ w'.ownsRow base 9 1 v' (l ++ m).length (strs (l ++ m)) ∧ Below base w w' := by
 obtain ⟨j0, gi, gz0, gz1, gz2⟩ := info_one info_st
 have key : ∀ (A : Option Addr) (cap : Nat), u = .slice A m.length cap → (0 < m.length → ∃ ad, A = some ad ∧ ∀ j x, (strs m)[j]? = some x → w.cell? (ad.add j) = some x) → ∃ v' w', (Builtin.append_ #[68, 68] 68 #[v, u]).run Tryz.prog w = .ok v' w' ∧ w'.ownsRow base 9 1 v' (l ++ m).length (strs (l ++ m)) ∧ Below base w w' := by
  intro A cap e hsrc
  subst e
  obtain ⟨v', w', hr, r1, r2⟩ := run_append_every2 w 68 68 68 base 9 9 j0 _ 1 16 Tryz.underlying68 Tryz.underlying68 gi gz0 gz1 gz2 rfl (by decide) v l.length (strs l) own A m.length cap (strs m) (by rw [strs_length, Nat.mul_one])
   hsrc (fun x hx => by obtain ⟨s, _, rfl⟩ := List.mem_map.1 hx; rfl) (by unfold maxLen; omega) (by omega) hb
  refine ⟨v', w', hr, ?_, ?_⟩
  · rw [List.length_append, show strs (l ++ m) = strs l ++ strs m by simp [strs]]
    exact r1
  · refine (Below.refl base w).grown r2 hb fun k hk => ?_
    rcases own.2 with ⟨rfl, _⟩ | ⟨g, c, cur, rfl, hg, _⟩
    · simp [Value.ownBlock] at hk
    · have : g = k := by simpa [Value.ownBlock] using hk
      omega
 rcases hu with ⟨rfl, rfl⟩ | ⟨b, o, cap, rfl, h2, h3, h4, h5⟩
 · exact key none 0 rfl fun h => by simp at h
 · refine key _ cap rfl fun _ => ⟨_, rfl, fun j x hj => ?_⟩
   have hl : j < m.length := by have := (List.getElem?_eq_some_iff.1 hj).1; rw [strs_length] at this; exact this
   rw [Addr.add_lit, h5 j hl, ← hj]
   simp [strs, List.getD, hl]
theorem one_st (s : List UInt8) (w : World) : StAt (.slice (some ⟨w.heap.size, 0, none⟩) 1 1) [s] (w.alloc (.cells #[.string ⟨s.toArray⟩] 9)) := by
 have hx := heap_alloc_new w (.cells #[.string ⟨s.toArray⟩] 9)
 refine .inr ⟨w.heap.size, 0, 1, rfl, by simp, by unfold maxLen; omega, (Go.ltA hx), fun i hi => ?_⟩
 obtain rfl : i = 0 := by simp at hi; omega
 rw [cell_of_row _ _ _ _ _ _ hx]
 rfl
theorem st_take {b o cap K : Nat} {l : List (List UInt8)} {w : World} (hb : b < w.heap.size) (hc : l.length ≤ cap) (hm : cap ≤ maxLen) (h : ∀ i, i < l.length → w.cell? ⟨b, o + i, none⟩ = some (.string ⟨(l.getD i []).toArray⟩)) (hK : K ≤ l.length) : StAt (.slice (some ⟨b, o, none⟩) K cap) (l.take K) w := by
 have hl : (l.take K).length = K := by rw [List.length_take]; omega
 refine .inr ⟨b, o, cap, by rw [hl], by omega, hm, hb, fun i hi => ?_⟩
 rw [hl] at hi
 rw [h i (by omega)]
 simp [List.getD, List.getElem?_take, hi]
theorem st_drop {b o cap K n : Nat} {l : List (List UInt8)} {w : World} (hb : b < w.heap.size) (hc : l.length ≤ cap) (hm : cap ≤ maxLen) (h : ∀ i, i < l.length → w.cell? ⟨b, o + i, none⟩ = some (.string ⟨(l.getD i []).toArray⟩)) (hK : K ≤ l.length) (hn : l.length = n) : StAt (.slice (some ⟨b, o + K, none⟩) (n - K) (cap - K)) (l.drop K) w := by
 subst hn
 refine .inr ⟨b, o + K, cap - K, by rw [List.length_drop], by rw [List.length_drop]; omega, Nat.le_trans (Nat.sub_le _ _) hm, hb, fun i hi => ?_⟩
 rw [List.length_drop] at hi
 rw [Nat.add_assoc, h (K + i) (by omega)]
 simp [List.getD, List.getElem?_drop]
theorem putK_at {s : List UInt8} : ∀ {l : List (List UInt8)} {k : Nat}, k ≤ l.length → (∀ i, i < k → Op.bytesLess (l.getD i []) s = true) → (k < l.length → Op.bytesLess (l.getD k []) s = false) → putK l s = if k < l.length ∧ l.getD k [] = s then l else l.take k ++ s :: l.drop k
 | [], k, hk, _, _ => by
   obtain rfl : k = 0 := by simpa using hk
   rfl
 | a :: l, 0, _, _, h2 => by
   have h := h2 (by simp)
   simp only [List.getD_cons_zero] at h
   rw [putK, h]
   simp
 | a :: l, k + 1, hk, h1, h2 => by
   have h0 := h1 0 (by omega)
   simp only [List.getD_cons_zero] at h0
   have ih := putK_at (s := s) (l := l) (k := k) (by simpa using hk) (fun i hi => by have := h1 (i + 1) (by omega); simpa using this) (fun hl => by have := h2 (by simpa using hl); simpa using this)
   rw [putK, h0, if_pos rfl, ih]
   simp only [List.length_cons, Nat.add_lt_add_iff_right, List.getD_cons_succ, List.take_succ_cons, List.drop_succ_cons, List.cons_append]
   split <;> rfl
set_option maxRecDepth 100000 in
set_option maxHeartbeats 4000000 in
theorem putS_any (v : Value) (K : List (List UInt8)) (s : List UInt8) (w : World) (hv : StAt v K w) (hbig : K.length ≤ 90000) :
 Calls Tryz.prog 59 #[v, .string ⟨s.toArray⟩] w fun e w' => ∃ v', e = .returned v' ∧ StAt v' (putK K s) w' ∧ Below w.heap.size w w' := by
 rcases hv with ⟨rfl, rfl⟩ | ⟨b, o, cap, rfl, hc, hm, hb, hcell⟩
 · obtain ⟨v7, w7, run7, own7, b7⟩ := run_append_st (base := w.heap.size) (l := []) (World.ownsRow_nil _ _ _ _) (Nat.le_refl _) (show StAt (.slice none 0 0) [] w from .inl ⟨rfl, rfl⟩) (by simp)
   rw [List.nil_append] at own7
   obtain ⟨Wx, hWx⟩ : ∃ Wx, w7.alloc (.cells #[.string ⟨s.toArray⟩] 9) = Wx := ⟨_, rfl⟩
   obtain ⟨g7, hg7⟩ : ∃ g7, w7.heap.size = g7 := ⟨_, rfl⟩
   have nbx := (Below.refl w7.heap.size w7).alloc (Nat.le_refl _) (.cells #[.string ⟨s.toArray⟩] 9)
   have s1 := one_st s w7
   rw [hWx] at nbx s1
   rw [hg7] at s1
   obtain ⟨v8, w8, run8, own8, b8⟩ := run_append_st (own_lat own7 nbx) (Nat.le_trans b7.size nbx.size) s1 (by simp)
   rw [List.nil_append] at own8
   have b78 := b7.trans ((nbx.mono b7.size).trans b8)
   obtain ⟨v9, w9, run9, own9, b9⟩ := run_append_st own8 b78.size (show StAt (.slice none 0 0) [] w8 from .inl ⟨rfl, rfl⟩) (by simp)
   rw [List.append_nil] at own9
   have R7 := Lib.hid run7
   have R8 := Lib.hid run8
   have R9 := Lib.hid run9
   have HF := Lib.hid (And.intro (stAt_own own9) (b78.trans b9))
   clear nbx s1 run7 own7 b7 run8 own8 b8 run9 own9 b9 b78
   go_enter Tryz.func59, Tryz.ntmps59
   go_wp2_with fail
   go_loopw [5] (fun iv wr => iv = .int .i64 0 ∧ w = wr) (fun _ _ => 0)
   case atStart => exact ⟨rfl, rfl⟩
   case round =>
    obtain ⟨rfl, rfl⟩ := hrel
    go_upto_region 7 with (at_builtin; refine wpList_append_runE _ rfl _ _ 68 68 rfl _ _ rfl rfl R7.out ?_)
    go_upto_region 8 with (at_builtin; refine wpList_append_runE _ rfl _ _ 68 68 rfl _ _ rfl rfl R8.out ?_)
    go_wp2_with (at_builtin; refine wpList_append_runE _ rfl _ _ 68 68 rfl _ _ rfl rfl R9.out ?_)
    go_ret
    exact ⟨_, rfl, HF.out.1, HF.out.2⟩
 · obtain ⟨n, hn⟩ : ∃ n, K.length = n := ⟨_, rfl⟩
   have hnb : n ≤ 90000 := by omega
   have HM := Lib.hid (And.intro hm hcell)
   have HN := Lib.hid hn
   unfold maxLen at hm
   rw [hn] at hc ⊢
   clear hcell hbig hn
   go_enter Tryz.func59, Tryz.ntmps59
   go_wp2_with fail
   go_loopw [5] (fun iv wr => ∃ k : Nat, k ≤ n ∧ iv = .int .i64 k ∧ w = wr ∧ Hid (∀ i, i < k → Op.bytesLess (K.getD i []) s = true)) (fun iv _ => n - (intOf iv).toNat)
   case atStart => exact ⟨0, by omega, rfl, rfl, Lib.hid fun i hi => by omega⟩
   case round =>
    obtain ⟨k, hk, rfl, rfl, HI⟩ := hrel
    have hSTOP : ∀ (hno : k < n → Op.bytesLess (K.getD k []) s = false), putK K s = if k < K.length ∧ K.getD k [] = s then K else K.take k ++ s :: K.drop k := fun hno => putK_at (by rw [HN.out]; exact hk) HI.out (fun h => hno (by rw [HN.out] at h; exact h))
    have HST := Lib.hid hSTOP
    clear hSTOP
    by_cases hkn : k < n
    · have x0 := HM.out.2 k (by rw [HN.out]; exact hkn)
      obtain ⟨a, ha⟩ : ∃ a, K.getD k [] = a := ⟨_, rfl⟩
      rw [ha] at x0
      have hki : (k : Int) < (n : Int) := by omega
      cases hl : Op.bytesLess a s with
      | true =>
        have HI2 := Lib.hid (show ∀ i, i < k + 1 → Op.bytesLess (K.getD i []) s = true from fun i hi => by
         by_cases e : i = k
         · rw [e, ha]; exact hl
         · exact HI.out i (by omega))
        go_wp2_with fail
        go_roundw
        case rel => exact ⟨k + 1, by omega, by simp <;> omega, by trivial, HI2⟩
        case measure => simp [intOf]; omega
      | false =>
        have hput := HST.out fun _ => by rw [ha]; exact hl
        rw [ha] at hput
        by_cases he : a = s
        · rw [if_pos ⟨by rw [HN.out]; exact hkn, he⟩] at hput
          have e1 : (a == s) = true := by simp [he]
          have HP := Lib.hid hput
          have HV := Lib.hid (show StAt (.slice (some ⟨b, o, none⟩) n cap) K w from .inr ⟨b, o, cap, by rw [HN.out], by rw [HN.out]; exact hc, HM.out.1, hb, HM.out.2⟩)
          clear hput he ha
          go_wp2_with fail
          go_ret
          exact ⟨_, rfl, by rw [HP.out]; exact HV.out, Below.refl _ _⟩
        · rw [if_neg fun h => he h.2] at hput
          have e1 : (a == s) = false := by simpa using he
          have HP := Lib.hid hput
          clear hput he ha
          obtain ⟨v7, w7, run7, own7, b7⟩ := run_append_st (base := w.heap.size) (l := []) (World.ownsRow_nil _ _ _ _) (Nat.le_refl _) (st_take hb (by rw [HN.out]; exact hc) HM.out.1 HM.out.2 (K := k) (by rw [HN.out]; exact hk)) (by rw [List.length_take]; simp only [List.length_nil]; omega)
          rw [List.nil_append] at own7
          obtain ⟨Wx, hWx⟩ : ∃ Wx, w7.alloc (.cells #[.string ⟨s.toArray⟩] 9) = Wx := ⟨_, rfl⟩
          obtain ⟨g7, hg7⟩ : ∃ g7, w7.heap.size = g7 := ⟨_, rfl⟩
          have nbx := (Below.refl w7.heap.size w7).alloc (Nat.le_refl _) (.cells #[.string ⟨s.toArray⟩] 9)
          have s1 := one_st s w7
          rw [hWx] at nbx s1
          rw [hg7] at s1
          obtain ⟨v8, w8, run8, own8, b8⟩ := run_append_st (own_lat own7 nbx) (Nat.le_trans b7.size nbx.size) s1 (by rw [List.length_take]; simp only [List.length_singleton]; omega)
          have b78 := b7.trans ((nbx.mono b7.size).trans b8)
          obtain ⟨v9, w9, run9, own9, b9⟩ := run_append_st own8 b78.size (st_drop (Nat.lt_of_lt_of_le hb b78.size) (by rw [HN.out]; exact hc) HM.out.1 (fun i hi => (b78.cell (p := ⟨b, o + i, none⟩) hb).trans (HM.out.2 i hi)) (K := k) (by rw [HN.out]; exact hk) HN.out) (by rw [List.length_append, List.length_take, List.length_drop]; simp only [List.length_singleton]; have := HN.out; omega)
          rw [List.append_assoc, List.singleton_append, ← HP.out] at own9
          have R7 := Lib.hid run7
          have R8 := Lib.hid run8
          have R9 := Lib.hid run9
          have HF := Lib.hid (And.intro (stAt_own own9) (b78.trans b9))
          clear run7 own7 b7 nbx s1 run8 own8 b8 b78 run9 own9 b9
          go_upto_region 7 with (at_builtin; refine wpList_append_runE _ rfl _ _ 68 68 rfl _ _ rfl rfl R7.out ?_)
          go_upto_region 8 with (at_builtin; refine wpList_append_runE _ rfl _ _ 68 68 rfl _ _ rfl rfl R8.out ?_)
          go_wp2_with (at_builtin; refine wpList_append_runE _ rfl _ _ 68 68 rfl _ _ rfl rfl R9.out ?_)
          all_goals
           go_ret
           exact ⟨_, rfl, HF.out.1, HF.out.2⟩
    · obtain rfl : k = n := by omega
      have hput := HST.out fun h => by omega
      rw [if_neg fun h => by rw [HN.out] at h; omega] at hput
      have HP := Lib.hid hput
      have hki : ¬ (k : Int) < (k : Int) := by omega
      clear hput
      obtain ⟨v7, w7, run7, own7, b7⟩ := run_append_st (base := w.heap.size) (l := []) (World.ownsRow_nil _ _ _ _) (Nat.le_refl _) (st_take hb (by rw [HN.out]; exact hc) HM.out.1 HM.out.2 (K := k) (by rw [HN.out]; exact hk)) (by rw [List.length_take]; simp only [List.length_nil]; omega)
      rw [List.nil_append] at own7
      obtain ⟨Wx, hWx⟩ : ∃ Wx, w7.alloc (.cells #[.string ⟨s.toArray⟩] 9) = Wx := ⟨_, rfl⟩
      obtain ⟨g7, hg7⟩ : ∃ g7, w7.heap.size = g7 := ⟨_, rfl⟩
      have nbx := (Below.refl w7.heap.size w7).alloc (Nat.le_refl _) (.cells #[.string ⟨s.toArray⟩] 9)
      have s1 := one_st s w7
      rw [hWx] at nbx s1
      rw [hg7] at s1
      obtain ⟨v8, w8, run8, own8, b8⟩ := run_append_st (own_lat own7 nbx) (Nat.le_trans b7.size nbx.size) s1 (by rw [List.length_take]; simp only [List.length_singleton]; omega)
      have b78 := b7.trans ((nbx.mono b7.size).trans b8)
      have hdn : K.drop k = [] := List.drop_eq_nil_of_le (by rw [HN.out]; exact Nat.le_refl _)
      have sd : StAt (.slice (if cap = k then some ⟨b, o, none⟩ else some ⟨b, o + k, none⟩) 0 (cap - k)) (K.drop k) w8 := by
       rw [hdn]
       have hcm : cap - k ≤ maxLen := by unfold maxLen; omega
       split
       · exact .inr ⟨b, o, cap - k, rfl, by simp, hcm, Nat.lt_of_lt_of_le hb b78.size, fun i hi => by simp at hi⟩
       · exact .inr ⟨b, o + k, cap - k, rfl, by simp, hcm, Nat.lt_of_lt_of_le hb b78.size, fun i hi => by simp at hi⟩
      obtain ⟨v9, w9, run9, own9, b9⟩ := run_append_st own8 b78.size sd (by rw [List.length_append, List.length_take, List.length_drop]; simp only [List.length_singleton]; have := HN.out; omega)
      rw [List.append_assoc, List.singleton_append, ← HP.out] at own9
      have R7 := Lib.hid run7
      have R8 := Lib.hid run8
      have R9 := Lib.hid run9
      have HF := Lib.hid (And.intro (stAt_own own9) (b78.trans b9))
      clear run7 own7 b7 nbx s1 run8 own8 b8 b78 run9 own9 b9
      go_upto_region 7 with (at_builtin; refine wpList_append_runE _ rfl _ _ 68 68 rfl _ _ rfl rfl R7.out ?_)
      go_upto_region 8 with (at_builtin; refine wpList_append_runE _ rfl _ _ 68 68 rfl _ _ rfl rfl R8.out ?_)
      go_wp2_with (at_builtin; refine wpList_append_runE _ rfl _ _ 68 68 rfl _ _ rfl rfl R9.out ?_)
      all_goals
       go_ret
       exact ⟨_, rfl, HF.out.1, HF.out.2⟩
end Go.Proofs.YtoglloafpnopaaaGreat
