/- parted: cells in blocks of four. -/
import Derived.Test.YtanaoepakllohaaTabD
namespace Go.Proofs.Ytanaoepakllohaa
set_option maxRecDepth 16000
open Go.RowKit Spoor Go.Shelf
set_option linter.unusedVariables false
attribute [local go_sem] Oper.semAt_some

set_option maxRecDepth 100000 in
set_option maxHeartbeats 8000000 in
theorem partedT_any (s : Value) (l : List Ce) (w : World) (hs : SlAt s l w) (hbig : l.length ≤ 100000) :
    Calls Try.prog 28 #[s] w fun e w' => ∃ v, e = .returned v ∧ BksAt w.heap.size v (fours l) w' ∧ Below w.heap.size w w' := by
  obtain ⟨A, cap, rfl, hlc, hcap, hrow⟩ := hs
  obtain ⟨b, o, hA⟩ : ∃ b o, 0 < l.length → A = some ⟨b, o, none⟩ ∧ RowAt b o l w := by
    by_cases h : 0 < l.length
    · obtain ⟨b, o, h1, h2⟩ := hrow h
      exact ⟨b, o, fun _ => ⟨h1, h2⟩⟩
    · exact ⟨0, 0, fun h' => absurd h' h⟩
  clear hrow
  refine (callsIn_wide (n := 5)).1 ?_
  refine callsIn_of_wp_marks Try.func28 rfl trivial ?_ rfl
  simp only [Try.ntmps28, List.size_toArray, List.length_cons, List.length_nil, Nat.reduceAdd, Nat.reduceSub, Array.replicate_succ, Array.replicate_zero, List.push_toArray, List.append_toArray, List.nil_append, List.cons_append]
  gi_wp2_with (first
    | (refine ⟨trivial, ?_⟩; gi_at_call 57; refine (chunk_in _ _ _ _ _).mono ?_; rintro e w2 ⟨rfl, rfl⟩))
  obtain ⟨q, hqe⟩ : ∃ q, w.heap.size = q := ⟨_, rfl⟩
  have bQ := Boxed.new w 55 (.slice none 0 0)
  have bS := Boxed.new (w.alloc (.cells #[.slice none 0 0] 55)) 22 (.slice A l.length cap)
  have bN := Boxed.new ((w.alloc (.cells #[.slice none 0 0] 55)).alloc (.cells #[.slice A l.length cap] 22)) 3 (.int .i64 4)
  rw [World.size_alloc] at bS
  rw [World.size_alloc, World.size_alloc] at bN
  have bQ := (bQ.alloc (.cells #[.slice A l.length cap] 22)).alloc (.cells #[.int .i64 4] 3)
  have bS := bS.alloc (.cells #[.int .i64 4] 3)
  have B0 := (((Below.refl w.heap.size w).alloc (Nat.le_refl _) (.cells #[.slice none 0 0] 55)).alloc (by simp) (.cells #[.slice A l.length cap] 22)).alloc (by simp; omega) (.cells #[.int .i64 4] 3)
  have hsz : (((w.alloc (.cells #[.slice none 0 0] 55)).alloc (.cells #[.slice A l.length cap] 22)).alloc (.cells #[.int .i64 4] 3)).heap.size = q + 3 := by simp; omega
  obtain ⟨W0, hW0⟩ : ∃ W0, (((w.alloc (.cells #[.slice none 0 0] 55)).alloc (.cells #[.slice A l.length cap] 22)).alloc (.cells #[.int .i64 4] 3)) = W0 := ⟨_, rfl⟩
  rw [hW0] at bQ bS bN B0 hsz ⊢
  rw [hqe] at bQ bS bN B0 ⊢
  have hA' : 0 < l.length → A = some ⟨b, o, none⟩ ∧ RowAt b o l w ∧ b < q := fun h => ⟨(hA h).1, (hA h).2, by rw [← hqe]; exact (hA h).2.1⟩
  have hO : PtAt q (q + 3) [] W0 := ⟨_, [], bQ, World.ownsRow_nil _ _ _ _, SlG.nil _ _, by omega, by omega⟩
  clear hW0 hA
  refine wpIn_rangeFunc_ownG rfl (by omega) (gf := 79) (lb := #[.pointer (some ⟨q + 1, 0, none⟩), .pointer (some ⟨q + 2, 0, none⟩)]) rfl trivial (enters_of Try.func79 (by kernel_rfl) rfl)
    (chunk_stops 4 (by omega) (q + 1) (q + 2) q b o l.length cap A (fun h => (hA' h).1) (by omega) hlc hcap W0 bS bN) KpC.trans (KpC.book (by omega) (by omega) (by omega)) (Below.refl _ _) (fun _ => rfl)
    (fun pre W => PtAt q (q + 3) (pre.map fun x => chOf l x.1) W ∧ Below q w W)
    (fun _ _ _ => False)
    (OwnFrom.and (Own.from (fun s A B row hs hg hr => hs.kept hg hr) _) (ownFrom_below (by omega) (by omega)))
    (fun _ _ _ _ _ hs _ _ => hs)
    ⟨hO, B0⟩
    (fun x => { tmps := #[.slice A l.length cap, undef, .slice none 0 0, .pointer (some ⟨q, 0, none⟩), .slice (some ⟨b, o + x.1 * 4 * 3, none⟩) (min 4 (l.length - x.1 * 4)) (min 4 (l.length - x.1 * 4)), .slice A l.length cap, .func (.func 79) #[] #[.pointer (some ⟨q + 1, 0, none⟩), .pointer (some ⟨q + 2, 0, none⟩)], .slice (some ⟨b, o + x.1 * 4 * 3, none⟩) (min 4 (l.length - x.1 * 4)) (min 4 (l.length - x.1 * 4)), undef, undef, undef, undef, undef, undef, undef, undef, undef, undef, undef], defers := [] }) ?assign ?body ?done ?stop
  case assign =>
    intro lp x W K hK
    gi_wp2
    exact hK
  case body =>
    rintro lp pre ⟨i, hi⟩ W ⟨hI, hB⟩ hlt
    obtain ⟨rfl, hRow, hbq'⟩ := hA' (by omega)
    obtain ⟨v, hbq, hqn, hnW, step⟩ := pt_step hI (by rw [List.length_map]; omega)
    obtain ⟨m, hm⟩ : ∃ m, min 4 (l.length - i * 4) = m := ⟨_, rfl⟩
    have hpart := (hRow.later hB (by omega)).part (i * 4) m (by omega)
    have hch : chOf l i = (l.drop (i * 4)).take m := by rw [chOf, hm]
    have hcl : (chOf l i).length = m := by rw [hch, List.length_take, List.length_drop]; omega
    rw [← hch] at hpart
    have cl := fun W' (hb : Below W.heap.size W W') => cloneC_any b (o + i * 4 * 3) m m (chOf l i) W' hcl (by omega) (by omega) (hpart.later hb hpart.1)
    obtain ⟨d, hd⟩ : ∃ d, (chOf l i).getD 0 Ce.zero = d := ⟨_, rfl⟩
    have hkey : keyG (chOf l i) = d.k := by
      rw [← hd]
      unfold keyG
      rw [head_getD]
    obtain ⟨x0, x1, x2⟩ := hpart.cells (i := 0) (by omega)
    rw [hd] at x0
    simp only [Nat.zero_mul, Nat.add_zero] at x0
    have hbl : b < W.heap.size := hpart.1
    have f5 := hbq.cell
    have hmx : Try.prog.follows .mixedOrders = true := by kernel_rfl
    have hm0 : 0 < m := by omega
    have CL := Lib.hid cl
    have ST := Lib.hid step
    have KB := Lib.hid hB
    have HK := Lib.hid hkey
    dsimp only
    rw [hm]
    clear hI hRow hpart cl step hB bQ bS bN B0 hO hm hlc hcap hA' hsz x1 x2 hd hch hcl hkey
    gi_wp2
    refine wpIn_region_late (fun W' => W'.cell? ⟨q, 0, none⟩ = some v ∧ W'.cell? ⟨b, o + i * 4 * 3, none⟩ = some (.string ⟨d.k.toArray⟩)) (fun j => j == 10) hmx ?_
    have hS : W.drew.cell? ⟨q, 0, none⟩ = some v ∧ W.drew.cell? ⟨b, o + i * 4 * 3, none⟩ = some (.string ⟨d.k.toArray⟩) := ⟨f5, x0⟩
    refine AnyS.take (i := 0) (v) rfl (by kernel_rfl) (by kernel_rfl) (by kernel_rfl) (by kernel_rfl) (fun _ _ _ h => h) ⟨.inl ⟨rfl, fun w' hw' => by obtain ⟨h1, h2⟩ := hw'; go_simp⟩, fun _ => rfl⟩ hS ?_
    refine AnyS.take (i := 1) (.slice (some ⟨b, o + i * 4 * 3, none⟩) m m) rfl (by kernel_rfl) (by kernel_rfl) (by kernel_rfl) (by kernel_rfl) (fun _ _ _ h => h) ⟨.inl ⟨rfl, fun w' hw' => by obtain ⟨h1, h2⟩ := hw'; go_simp⟩, fun _ => rfl⟩ hS ?_
    refine AnyS.take (i := 2) (.pointer (some ⟨b, o + i * 4 * 3, none⟩)) rfl (by kernel_rfl) (by kernel_rfl) (by kernel_rfl) (by kernel_rfl) (fun _ _ _ h => h) ⟨.inl ⟨rfl, fun w' hw' => by obtain ⟨h1, h2⟩ := hw'; go_simp⟩, fun _ => rfl⟩ hS ?_
    refine AnyS.take (i := 3) (.pointer (some ⟨b, o + i * 4 * 3, none⟩)) rfl (by kernel_rfl) (by kernel_rfl) (by kernel_rfl) (by kernel_rfl) (fun _ _ _ h => h) ⟨.inl ⟨rfl, fun w' hw' => by obtain ⟨h1, h2⟩ := hw'; go_simp⟩, fun _ => rfl⟩ hS ?_
    refine AnyS.take (i := 4) (.string ⟨d.k.toArray⟩) rfl (by kernel_rfl) (by kernel_rfl) (by kernel_rfl) (by kernel_rfl) (fun _ _ _ h => h) ⟨.inl ⟨rfl, fun w' hw' => by obtain ⟨h1, h2⟩ := hw'; go_simp⟩, fun _ => rfl⟩ hS ?_
    refine AnyS.take (i := 5) (.slice (some ⟨b, o + i * 4 * 3, none⟩) m m) rfl (by kernel_rfl) (by kernel_rfl) (by kernel_rfl) (by kernel_rfl) (fun _ _ _ h => h) ⟨.inl ⟨rfl, fun w' hw' => by obtain ⟨h1, h2⟩ := hw'; go_simp⟩, fun _ => rfl⟩ hS ?_
    refine AnyS.next (i := 6) rfl (by kernel_rfl) (by kernel_rfl) fun K hK => ?_
    go_simp
    refine ⟨trivial, (CallsIn.inRound lp (callsIn_wide.2 (CL.out _ (Below.drew (Below.refl _ _))))).mono ?_⟩
    rintro e w2 ⟨hb, b', cap', rfl, hb', hP⟩
    have B2 : Below W.heap.size W w2 := (Below.drew (Below.refl _ W)).trans hb
    obtain ⟨g', c', w3, hrun, g1, glow, hfin⟩ := ST.out (chOf l i) w2 b' m cap' B2 hb' hP
    rw [HK.out] at hrun
    simp only [List.length_map] at hfin hrun
    have B3 := B2.alloc B2.size (.cells #[.string ⟨d.k.toArray⟩, .slice (some ⟨b', 0, none⟩) m cap'] 70)
    have hS2 : w2.cell? ⟨q, 0, none⟩ = some v ∧ w2.cell? ⟨b, o + i * 4 * 3, none⟩ = some (.string ⟨d.k.toArray⟩) := ⟨(B2.cell (p := ⟨q, 0, none⟩) (by simp; omega)).trans f5, (B2.cell (p := ⟨b, o + i * 4 * 3, none⟩) hbl).trans x0⟩
    refine hK _ _ (fun _ => hS2) ?_
    clear hK K
    refine AnyS.next (i := 7) rfl (by kernel_rfl) (by kernel_rfl) fun K hK => ?_
    go_simp
    refine hK _ _ (fun _ => hS2) ?_
    clear hK K
    refine AnyS.next (i := 8) rfl (by kernel_rfl) (by kernel_rfl) fun K hK => ?_
    go_simp
    refine hK _ _ (fun _ => ⟨(B3.cell (p := ⟨q, 0, none⟩) (by simp; omega)).trans f5, (B3.cell (p := ⟨b, o + i * 4 * 3, none⟩) hbl).trans x0⟩) ?_
    clear hK K
    refine AnyS.next (i := 9) rfl (by kernel_rfl) (by kernel_rfl) fun K hK => ?_
    refine want_yes rfl ?_
    refine opIn_value _ (fun c h => by cases h) rfl (exec_append (s := .tmp 8) (x := .tmp 16) rfl rfl rfl hrun) ?_
    refine hK _ _ (fun _ => ⟨g1.cell, (World.cell?_of_block (a := ⟨b, o + i * 4 * 3, none⟩) (glow b (by omega))).trans x0⟩) ?_
    clear hK K
    have a5 := g1.cell
    have a6 := g1.frozen
    refine AnyS.next (i := 10) rfl (by kernel_rfl) (by kernel_rfl) fun K hK => ?_
    go_simp
    refine hK _ _ (fun h => by cases h) ?_
    clear hK K
    refine AnyS.done (by kernel_rfl) ?_ _
    obtain ⟨r1, r2, r3, r4⟩ := hfin
    have hBB := r4 q (Nat.le_refl _)
    exact ⟨r2.from _, ⟨hBB, r3 (q + 1) (by omega) (by omega), r3 (q + 2) (by omega) (by omega)⟩, by rw [List.map_append]; exact r1, KB.out.trans hBB⟩
  case done =>
    rintro D ys W hD ⟨K, hK1, hK2, hys⟩ ⟨hI, hB⟩ hK
    have hgs : (ys.map fun x => chOf l x.1) = fours l := by
      rw [← chOf_fours l K hK1 hK2, ← hys, List.map_map]
      rfl
    rw [hgs] at hI
    have hI2 : ∀ o', PtAt q (q + 3) (fours l) (W.putObj D o') := fun o' => hI.kept (row := some D) ⟨rfl, rfl, rfl, by simp, fun k _ hne => World.putObj_heap_other fun e => hne (by rw [e])⟩ (fun r hr => by cases hr; exact ⟨_, hK, rfl⟩)
    obtain ⟨v, vs, h1, h2, h3, -⟩ := id hI
    have f5 := h1.cell
    have HH := Lib.hid (fun o' => show BksAt w.heap.size v (fours l) (W.putObj D o') from by
      obtain ⟨v', vs', h1', h2', h3', -⟩ := hI2 o'
      have e : v = v' := by
        have hq : (W.putObj D o').heap[q]? = W.heap[q]? := World.putObj_heap_other fun e => by
          have h9 : W.heap[q]? = some (.cells #[v] 55 (0, 0)) := h1
          rw [e, show W.heap[D]? = _ from hK] at h9
          cases h9
        have a1 : (W.putObj D o').heap[q]? = some (.cells #[v] 55 (0, 0)) := hq.trans h1
        have a2 : (W.putObj D o').heap[q]? = some (.cells #[v'] 55 (0, 0)) := h1'
        rw [a1] at a2
        injection a2 with a2
        injection a2 with a2
        simpa using a2
      rw [e]
      have h4' : SlG w.heap.size vs' (fours l) (W.putObj D o') := ⟨h3'.1, fun i hi => by obtain ⟨b, hl, hb⟩ := h3'.2 i hi; exact ⟨b, by omega, hb⟩⟩
      exact BksAt.of h2' (by omega) h4')
    have HB := Lib.hid hB
    have HD := Lib.hid hD
    clear hI2 hI hB hgs hys hK1 hK2 h1 h2 h3 hO bQ bS bN B0 hA' hD
    gi_wp2
    refine ⟨by simp, .inl ⟨_, _, rfl, run_takeDeferred hK, ?_⟩⟩
    refine ⟨_, results_tmp rfl _ _ _, v, rfl, HH.out _, ?_⟩
    rw [hqe]
    exact HB.out.trans (belowK_b (w := W0) (by omega) W D _ _ HD.out hK rfl rfl)
  case stop =>
    rintro D c pre W _ _ h _
    exact h.elim
end Go.Proofs.Ytanaoepakllohaa
