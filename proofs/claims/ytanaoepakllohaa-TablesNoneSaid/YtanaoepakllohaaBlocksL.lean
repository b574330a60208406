/- The walks of what the statements lay: a list's twin, the chapter's cells, its examples. -/
import Derived.Test.YtanaoepakllohaaBlocksK
import Derived.Deep.RegionWith
set_option linter.unusedSimpArgs false
set_option linter.unusedVariables false
namespace Go.Proofs.Ytanaoepakllohaa
set_option maxRecDepth 16000
open Go.RowKit Spoor

theorem RowAt.head {b o : Nat} {l m : List Ce} {w : World} (h : RowAt b o (l ++ m) w) : RowAt b o l w :=
  ⟨h.1, fun i hi => by
    have := h.2 i (by rw [List.length_append]; omega)
    rwa [show (l ++ m).getD i Ce.zero = l.getD i Ce.zero by simp [List.getD, List.getElem?_append_left hi]] at this⟩
def someL : List Ce := [⟨[97, 98], 7, [120]⟩, ⟨[97, 98], 3, []⟩, ⟨[97, 99], 0, [121]⟩]
def SomeAt (g : Nat) (w : World) : Prop := w.heap[g]? = some (.cells #[.string ⟨#[97, 98]⟩, .int .i64 7, .string ⟨#[120]⟩, .string ⟨#[97, 98]⟩, .int .i64 3, .string ⟨#[]⟩, .string ⟨#[97, 99]⟩, .int .i64 0, .string ⟨#[121]⟩] 36 (0, 0))
theorem SomeAt.row {g : Nat} {w : World} (h : SomeAt g w) : RowAt g 0 someL w := by
  refine ⟨(Array.getElem?_eq_some_iff.1 h).1, fun i hi j v hv => ?_⟩
  rw [cell_of_row w g _ _ _ _ h]
  have hi' : i < 3 := hi
  have hj : j < 3 := by
    have := (List.getElem?_eq_some_iff.1 hv).1
    simpa [ceRow] using this
  rcases (by omega : i = 0 ∨ i = 1 ∨ i = 2) with rfl | rfl | rfl <;> rcases (by omega : j = 0 ∨ j = 1 ∨ j = 2) with rfl | rfl | rfl <;> simpa [someL, ceRow] using hv
theorem RowAt.sl {g cap : Nat} {l : List Ce} {w : World} {n : Nat} (h : RowAt g 0 l w) (hn : l.length = n) (hc : n ≤ cap) (hm : cap ≤ maxLen) : SlAt (.slice (some ⟨g, 0, none⟩) n cap) l w :=
  ⟨some ⟨g, 0, none⟩, cap, by rw [hn], by omega, hm, fun _ => ⟨g, 0, rfl, h⟩⟩
def junkT : Ce := ⟨[], -70, []⟩
def TwinEx (l : List Ce) (w : World) (e : Ending) (w' : World) : Prop :=
  Below w.heap.size w w' ∧ ∃ g cap, e = .returned (.slice (some ⟨g, 0, none⟩) l.length cap) ∧ l.length + 1 ≤ cap ∧ cap ≤ maxLen ∧ RowAt g 0 (l ++ [junkT]) w'
theorem junk_cells (w : World) : ∀ j u, (ceRow junkT)[j]? = some u → (w.alloc (.cells #[.string ⟨#[]⟩, .int .i64 (-70), .string ⟨#[]⟩] 36)).cell? ((⟨w.heap.size, 0, none⟩ : Addr).add j) = some u := by
  have q3 := CeAt.boxed junkT w
  unfold boxC junkT at q3
  obtain ⟨r0, r1, r2⟩ := q3.cell
  intro j u hj
  rw [Addr.add_lit, Nat.zero_add]
  match j, hj with
  | 0, hj => simp only [ceRow, junkT, List.getElem?_cons_zero, Option.some.injEq] at hj; subst hj; exact r0
  | 1, hj => simp only [ceRow, junkT, List.getElem?_cons_succ, List.getElem?_cons_zero, Option.some.injEq] at hj; subst hj; exact r1
  | 2, hj => simp only [ceRow, junkT, List.getElem?_cons_succ, List.getElem?_cons_zero, Option.some.injEq] at hj; subst hj; exact r2
  | j + 3, hj => simp [ceRow] at hj
theorem ceRow_one (c : Ce) : ∀ u ∈ ceRow c, u.oneCell' = true := by
  intro u hu
  simp only [ceRow, List.mem_cons, List.not_mem_nil, or_false] at hu
  rcases hu with rfl | rfl | rfl <;> rfl
theorem rowOf_one (l : List Ce) : ∀ u ∈ rowOf l, u.oneCell' = true := by
  intro u hu
  unfold rowOf at hu
  obtain ⟨c, _, hc⟩ := List.mem_flatMap.1 hu
  exact ceRow_one c u hc
/-- behind the appends -/
theorem twin_end {l : List Ce} {w w3 : World} {v : Value} (hB : Below w.heap.size w w3) (own : w3.ownsRow w.heap.size 36 3 v (l.length + 1) (rowOf l ++ ceRow junkT)) :
    ∃ g cap, v = .slice (some ⟨g, 0, none⟩) (l.length + 1) cap ∧ l.length + 1 ≤ cap ∧ cap ≤ maxLen ∧ RowAt g 0 (l ++ [junkT]) w3 := by
  rcases own.2 with ⟨_, h0⟩ | ⟨g, cap, cur, rfl, hb, hg, hn, hm, _⟩
  · omega
  · rw [← rowOf_snoc] at own
    have e : (l ++ [junkT]).length = l.length + 1 := by simp
    rw [← e] at own
    obtain ⟨A, cap2, h1, _, _, h4⟩ := slAt_own own
    simp only [Value.slice.injEq] at h1
    obtain ⟨b, o, h5, h6⟩ := h4 (by omega)
    rw [← h1.1] at h5
    simp only [Option.some.injEq, Addr.mk.injEq] at h5
    obtain ⟨rfl, rfl, _⟩ := h5
    exact ⟨g, cap, rfl, hn, hm, h6⟩
set_option maxHeartbeats 4000000 in
theorem twin_any (s : Value) (l : List Ce) (w : World) (hs : SlAt s l w) (hl : l.length ≤ 100000) (hnil : s = .slice none 0 0 ∨ ∃ ad n c, s = .slice (some ad) n c) : Calls Try.prog 12 #[s] w (TwinEx l w) := by
  obtain ⟨A, cap, rfl, h1, h2, h3⟩ := hs
  unfold maxLen at h2
  obtain ⟨i0, hi, hz0, hz1, hz2⟩ := info_parts info_ce
  obtain ⟨n, hn⟩ : ∃ n, l.length = n := ⟨_, rfl⟩
  have HN := Lib.hid hn
  have H3 := Lib.hid h3
  have hrl : (rowOf l).length = n * 3 := by rw [rowOf_length, hn]
  have HRL := Lib.hid hrl
  rw [hn] at h1 hl hnil ⊢
  clear h3 hrl
  rcases hnil with hA | ⟨ad, n', c', hA⟩
  · simp only [Value.slice.injEq] at hA
    obtain ⟨rfl, rfl, rfl⟩ := hA
    obtain rfl : l = [] := List.eq_nil_of_length_eq_zero HN.out
    clear hn
    go_enter Try.func12, Try.ntmps12
    go_wp2_with (at_make; refine wpList_make_own _ rfl _ _ 22 rfl w.heap.size 36 i0 (.agg #[.string ⟨#[]⟩, .int .i64 0, .string ⟨#[]⟩]) 3 Try.underlying22 hi hz0 hz1 .i64 .i64 _ 1 rfl rfl rfl (by rw [hz2]; omega) (by unfold maxLen; omega) (Nat.le_refl _) ?_)
    intro w1 own1 gr1
    have B1 : Below w.heap.size w w1 := (Below.refl w.heap.size w).grown gr1 (Nat.le_refl _) (fun k h => by cases h)
    go_wp2_with (first | (at_builtin; refine wpList_append_own_none rfl (.tmp 6) (.tmp 7) 22 rfl w.heap.size 36 i0 3 Try.underlying22 hi _ 0 [] rfl own1 rfl ?_) | (at_builtin; refine wpList_append_own _ rfl (.tmp 8) (.tmp 10) 22 rfl w.heap.size 36 i0 (.agg #[.string ⟨#[]⟩, .int .i64 0, .string ⟨#[]⟩]) 3 40 Try.underlying22 hi hz0 hz1 hz2 rfl (by decide) _ 0 [] rfl (own1.alloc _) ⟨w1.heap.size, 0, none⟩ 1 1 (ceRow junkT) rfl rfl (junk_cells _) (ceRow_one _) (by unfold maxLen; omega) (by omega) (by simp; have := B1.size; omega) ?_))
    intro v2 w3 own3 gr3 _
    have B3 : Below w.heap.size w w3 := (B1.alloc B1.size _).grown gr3 (by simp; have := B1.size; omega) (fun k hk => (own1.lt k hk).1)
    obtain ⟨g, cap, rfl, c1, c2, hrow⟩ := twin_end (l := []) B3 (by simpa [rowOf] using own3)
    unfold maxLen at c2
    simp only [List.length_nil, Nat.zero_add] at c1
    clear own3 gr3 own1 gr1
    go_wp2_with fail
    go_ret
    exact ⟨B3, g, cap, rfl, c1, by unfold maxLen; omega, hrow⟩
  · simp only [Value.slice.injEq] at hA
    obtain ⟨rfl, rfl, rfl⟩ := hA
    have hcells : ∀ j u, (rowOf l)[j]? = some u → w.cell? (ad.add j) = some u := by
      intro j u hj
      have hjl : j < l.length * 3 := by
        have := (List.getElem?_eq_some_iff.1 hj).1
        rwa [rowOf_length] at this
      obtain ⟨b, o, hab, hrow⟩ := H3.out (by omega)
      simp only [Option.some.injEq] at hab
      subst hab
      have h1 : j = (j / 3) * 3 + j % 3 := by omega
      rw [Addr.add_mid]
      have hr := rowOf_at l (j / 3) (j % 3) (by omega) (by omega)
      rw [← h1, hj] at hr
      have := hrow.2 (j / 3) (by omega) (j % 3) u hr.symm
      rwa [show o + j / 3 * 3 + j % 3 = o + j by omega] at this
    have hblk : 0 < l.length → ad.block < w.heap.size := by
      intro h
      obtain ⟨b, o, hab, hrow⟩ := H3.out h
      simp only [Option.some.injEq] at hab
      subst hab
      exact hrow.1
    have HC := Lib.hid hcells
    have HBK := Lib.hid hblk
    have HL3 := Lib.hid hn
    clear hcells hblk hn
    go_enter Try.func12, Try.ntmps12
    go_wp2_with (at_make; refine wpList_make_own _ rfl _ _ 22 rfl w.heap.size 36 i0 (.agg #[.string ⟨#[]⟩, .int .i64 0, .string ⟨#[]⟩]) 3 Try.underlying22 hi hz0 hz1 .i64 .i64 _ (n + 1) rfl rfl rfl (by rw [hz2]; omega) (by unfold maxLen; omega) (Nat.le_refl _) ?_)
    intro w1 own1 gr1
    have B1 : Below w.heap.size w w1 := (Below.refl w.heap.size w).grown gr1 (Nat.le_refl _) (fun k h => by cases h)
    have hc1 : ∀ j u, (rowOf l)[j]? = some u → w1.cell? (ad.add j) = some u := by
      intro j u hj
      have h0 := HC.out j u hj
      have hjl : j < l.length * 3 := by
        have := (List.getElem?_eq_some_iff.1 hj).1
        rwa [rowOf_length] at this
      have hb := HBK.out (by omega)
      exact (B1.cell (p := ad.add j) (by unfold Addr.add; split <;> exact hb)).trans h0
    have HC1 := Lib.hid hc1
    clear hc1
    go_wp2_with (first | (at_builtin; refine wpList_append_own _ rfl (.tmp 6) (.tmp 7) 22 rfl w.heap.size 36 i0 (.agg #[.string ⟨#[]⟩, .int .i64 0, .string ⟨#[]⟩]) 3 40 Try.underlying22 hi hz0 hz1 hz2 rfl (by decide) _ 0 [] rfl own1 ad n cap (rowOf l) rfl HRL.out HC1.out (rowOf_one l) (by unfold maxLen; omega) (by omega) B1.size ?_))
    intro v2 w2 own2 gr2 _
    have B2 : Below w.heap.size w w2 := B1.grown gr2 B1.size (fun k hk => (own1.lt k hk).1)
    try simp only [Nat.zero_add, List.nil_append] at own2
    clear own1 gr1 gr2
    go_wp2_with (at_builtin; refine wpList_append_own _ rfl (.tmp 8) (.tmp 10) 22 rfl w.heap.size 36 i0 (.agg #[.string ⟨#[]⟩, .int .i64 0, .string ⟨#[]⟩]) 3 40 Try.underlying22 hi hz0 hz1 hz2 rfl (by decide) _ n (rowOf l) rfl (own2.alloc _) ⟨w2.heap.size, 0, none⟩ 1 1 (ceRow junkT) rfl rfl (junk_cells _) (ceRow_one _) (by unfold maxLen; omega) (by omega) (by simp; have := B2.size; omega) ?_)
    intro v3 w3 own3 gr3 _
    have B3 : Below w.heap.size w w3 := (B2.alloc B2.size _).grown gr3 (by simp; have := B2.size; omega) (fun k hk => (own2.lt k hk).1)
    obtain ⟨g, cap3, rfl, c1, c2, hrow⟩ := twin_end (l := l) B3 (by rw [HL3.out]; exact own3)
    unfold maxLen at c2
    rw [HL3.out] at c1 ⊢
    clear own3 gr3 own2
    go_wp2_with fail
    go_ret
    exact ⟨B3, g, cap3, ret1 (by rw [HL3.out]; rfl), by rw [HL3.out]; exact c1, by unfold maxLen; omega, hrow⟩
end Go.Proofs.Ytanaoepakllohaa
