/- The walks of BlocksEncode and BlocksDecode. -/
import Derived.Test.YtglonbkhocnplaaBlocksP
namespace Go.Proofs.Ytglonbkhocnplaa
open Go.RowKit Spoor

theorem bne_bool (b : Bool) : (b != b) = false := by cases b <;> rfl
theorem bne_bytes (b : List UInt8) : (b != b) = false := by simp
theorem slAt_row {v : Value} {l : List Ce} {w : World} (h : SlAt v l w) : ∃ A cap, v = .slice A l.length cap ∧ l.length ≤ cap ∧ cap ≤ maxLen ∧ (0 < l.length → ∃ b o, A = some ⟨b, o, none⟩ ∧ RowAt b o l w) := h
set_option maxRecDepth 100000 in
set_option maxHeartbeats 16000000 in
theorem blocksEncode_law (w : World) (v : Value) (l : List Ce) (hs : SlAt v l w) (hn : v = .slice none 0 0 ∨ ∃ ad n c, v = .slice (some ad) n c) (hw : ∀ c ∈ l, WfC c) :
    Calls Try.prog 7 #[v] w fun e w' => e = .returned (.bool true) ∧ Below w.heap.size w w' := by
  have CDO := Lib.hid bdoes_true
  have cg := fun W (h : SlAt v l W) => greatL_any v l 200 W h hw (by omega)
  cases hg : greatL l 200 with
  | true =>
    rw [hg] at cg
    have cg1 := cg w hs
    have CG := Lib.hid cg1
    clear cg cg1 hg hw hs
    go_enter Try.func7, Try.ntmps7
    go_wp2_with fail
    refine CG.out.mono ?_
    rintro e w1 ⟨rfl, b1⟩
    go_wp2_with fail
    go_ret
    exact ⟨rfl, b1⟩
  | false =>
    have hf := fits_great hg hw
    have hlen := len_great hg (by omega) hw
    obtain ⟨hl200, _⟩ := great_yes hg
    rw [hg] at cg
    have cg1 := cg w hs
    have CG := Lib.hid cg1
    have ct := fun W (h : SlAt v l W) => twin_any v l W h (by omega) hn
    have CT := Lib.hid ct
    have ce := fun v' W (h : SlAt v' l W) => encode_c v' l W h hf (fun h => by have := hlen h; omega)
    have cr := fun W (h : SlAt v l W) => refEncode_c v l W h hf (fun h => by have := hlen h; omega)
    have cs := fun v' W (h : SlAt v' l W) => sortedBl_any v' l W h hf
    have cq := fun W (h : SlAt v l W) => refSorted_any v l W h hf
    have cl := fun g cap W (h : SlAt v l W) (hr : RowAt g 0 (l ++ [junkT]) W) (hc : l.length + 1 ≤ cap) (hm : cap ≤ maxLen) => left_any g cap v l W h hr hc hm
    rw [encV_c] at ce cr
    have n1 := bne_bytes (encS l)
    have n3 := bne_bool (sortedB l)
    have HF := Lib.hid hf
    have HS0 := Lib.hid hs
    generalize encS l = S at *
    generalize encE l = E at *
    generalize sortedB l = b at *
    have CE := Lib.hid ce
    have CR := Lib.hid cr
    have CS := Lib.hid cs
    have CQ := Lib.hid cq
    have CL := Lib.hid cl
    have HV := Lib.hid hn
    clear cg cg1 ct ce cr cs cq cl hg hw hf hlen hs hn
    go_enter Try.func7, Try.ntmps7
    go_wp2_with fail
    refine CG.out.mono ?_
    rintro e w1 ⟨rfl, b1⟩
    have hs := HS0.out.later b1
    have B := b1
    clear b1
    go_wp2_with fail
    refine (CT.out _ hs).mono ?_
    rintro e w2 ⟨b2, g, cap, rfl, hc1, hc2, hrow⟩
    have hs := hs.later b2
    have B := btB B b2
    clear b2
    go_wp2_with fail
    refine (CE.out _ _ (hrow.slHead hc1 hc2)).mono ?_
    rintro e w3 ⟨rfl, b3⟩
    have hs := hs.later b3
    have hrow := hrow.later b3 hrow.1
    have B := btB B b3
    clear b3
    go_wp2_with fail
    refine (CR.out _ hs).mono ?_
    rintro e w4 ⟨rfl, b4⟩
    have hs := hs.later b4
    have hrow := hrow.later b4 hrow.1
    have B := btB B b4
    clear b4
    go_wp2_with fail
    refine (CS.out _ _ (hrow.slHead hc1 hc2)).mono ?_
    rintro e w5 ⟨rfl, b5⟩
    have hs := hs.later b5
    have hrow := hrow.later b5 hrow.1
    have B := btB B b5
    clear b5
    go_wp2_with fail
    refine (CQ.out _ hs).mono ?_
    rintro e w6 ⟨rfl, b6⟩
    have hs := hs.later b6
    have hrow := hrow.later b6 hrow.1
    have B := btB B b6
    clear b6
    go_wp2_with fail
    refine (CL.out g cap _ hs hrow hc1 hc2).mono ?_
    rintro e w7 ⟨rfl, b7⟩
    have hs := hs.later b7
    have B := btB B b7
    clear b7 hrow
    obtain ⟨A, cap2, rfl, h1, h2, h3⟩ := slAt_row hs
    unfold maxLen at h2
    have H3 := Lib.hid h3
    have HL2 : Hid (l.length ≤ 200) := Lib.hid hl200
    obtain ⟨n, hnn⟩ : ∃ n, l.length = n := ⟨_, rfl⟩
    have HN := Lib.hid hnn
    rw [hnn] at h1 ⊢
    clear h3 hs n1 n3 hnn hl200 hc1
    cases n with
    | zero =>
      go_wp2_with fail
      refine wp_region_more (by kernel_rfl) (by kernel_rfl) ?_
      repeat (go_big_quiet_step (fail))
      go_big_quiet_step (exact Calls.more (CDO.out _))
      repeat (go_big_quiet_step (fail))
      refine wpQuiet_nil ?_
      rintro _ ⟨ex, rfl⟩
      have b8 := World.below_more w7 ex
      have B := btB B b8
      go_wp2_with fail
      go_ret
      exact ⟨rfl, B⟩
    | succ n =>
      have hkl : 0 < l.length := by have := HN.out; omega
      obtain ⟨bb, o, rfl, hrow⟩ := H3.out hkl
      have hlt := hrow.1
      obtain ⟨x0, x1, x2⟩ := hrow.cells hkl
      have c1 := fun W => checkC_any (l.getD 0 Ce.zero) W (getD_lt HF.out hkl)
      have c2 := fun W => refCheckC_any (l.getD 0 Ce.zero) W (getD_lt HF.out hkl)
      simp only [Nat.zero_mul, Nat.add_zero] at x0 x1 x2
      clear hrow
      generalize l.getD 0 Ce.zero = c at *
      generalize chkC c = q at *
      unfold ceVal at c1 c2
      have C1 := Lib.hid c1
      have C2 := Lib.hid c2
      have hz : (((n : Int) + 1) == 0) = false := by rw [beq_eq_false_iff_ne]; omega
      have hz2 : (0 : Int) < (n : Int) + 1 := by omega
      clear c1 c2 h1 h2
      go_wp2_with fail
      refine wp_region_more (by kernel_rfl) (by kernel_rfl) ?_
      repeat (go_big_quiet_step (fail))
      go_big_quiet_step (exact Calls.more (C1.out _))
      repeat (go_big_quiet_step (fail))
      go_big_quiet_step (exact Calls.more (C2.out _))
      repeat (go_big_quiet_step (fail))
      go_big_quiet_step (exact Calls.more (CDO.out _))
      repeat (go_big_quiet_step (fail))
      refine wpQuiet_nil ?_
      rintro _ ⟨ex, rfl⟩
      have b8 := World.below_more w7 ex
      have B := btB B b8
      go_wp2_with fail
      go_ret
      exact ⟨rfl, B⟩
def decL (s : List UInt8) : List Ce := (decB s).getD []
def decQ (s : List UInt8) : Int := if (decB s).isSome then 0 else 30
theorem DecEx.one {s : List UInt8} {w w' : World} {e : Ending} (h : DecEx s w e w') :
    Below w.heap.size w w' ∧ ∃ v, e = .returned (.tuple #[v, .int .i64 (decQ s)]) ∧ w'.ownsRow w.heap.size 28 3 v (decL s).length (rowOf (decL s)) := by
  obtain ⟨hb, h⟩ := h
  refine ⟨hb, ?_⟩
  unfold decQ decL
  rcases h with ⟨hn, rfl⟩ | ⟨l, v, hl, rfl, own⟩
  · rw [hn]
    exact ⟨_, rfl, World.ownsRow_nil _ _ _ _⟩
  · rw [hl]
    exact ⟨v, rfl, own⟩
theorem row_cell {g cap k j : Nat} {cur : Array Value} {w : World} (hg : w.heap[g]? = some (.cells cur 28 (0, 0))) (hs : cur.size = cap * 3) (hk : k < cap) (hj : j < 3) : (∃ x, w.cell? ⟨g, k * 3 + j, none⟩ = some x) ∧ w.frozen? ⟨g, k * 3 + j, none⟩ = false := by
  have hi : k * 3 + j < cur.size := by omega
  constructor
  · exact ⟨cur[k * 3 + j], by rw [cell_of_row w g _ _ _ _ hg]; simp [hi]⟩
  · simp [World.frozen?, hg]
theorem rowc_set {g : Nat} {cur : Array Value} {w : World} {n : Nat} (hg : w.heap[g]? = some (.cells cur 28 (0, 0))) (hs : cur.size = n) (o : Nat) (v : Value) : ∃ cur2, (w.setCell ⟨g, o, none⟩ v).heap[g]? = some (.cells cur2 28 (0, 0)) ∧ cur2.size = n :=
  ⟨_, heap_setCell_same w g o _ _ v hg, by simpa using hs⟩
theorem slAt_set {g : Nat} {v : Value} {l : List Ce} {w : World} (h : SlAt v l w) (hne : v.ownBlock ≠ some g) (o : Nat) (x : Value) : SlAt v l (w.setCell ⟨g, o, none⟩ x) := by
  obtain ⟨A, cap, rfl, h1, h2, h3⟩ := h
  refine ⟨A, cap, rfl, h1, h2, fun hl => ?_⟩
  obtain ⟨b, o2, rfl, hrow⟩ := h3 hl
  have hbg : b ≠ g := by simpa [Value.ownBlock] using hne
  refine ⟨b, o2, rfl, ?_, fun i hi j u hj => ?_⟩
  · have := hrow.1
    simpa [World.setCell] using this
  · have := hrow.2 i hi j u hj
    rw [World.cell?_of_block (w := w) (Below.heap_setCell w _ _ _ hbg)]
    exact this
set_option maxRecDepth 100000 in
set_option maxHeartbeats 16000000 in
theorem blocksDecode_law (s : ByteArray) (hs : s.size ≤ 140737488351232) (w : World) :
    Calls Try.prog 3 #[.string s] w fun e w' => e = .returned (.bool true) ∧ Below w.heap.size w w' := by
  have es : s = ⟨s.data.toList.toArray⟩ := by cases s; simp
  rw [es] at hs ⊢
  rw [size_of] at hs
  generalize s.data.toList = s at *
  clear es
  have CDO := Lib.hid bdoes_true
  by_cases h1 : (5000 : Int) < (s.length : Int)
  · go_enter Try.func3, Try.ntmps3
    go_wp2_with fail
    go_ret
    exact ⟨rfl, Below.refl _ _⟩
  · have c1 := fun W => decodeB_any s W (by omega)
    have c2 := fun W => refDecodeB_any s W (by omega)
    have C1 := Lib.hid c1
    have C2 := Lib.hid c2
    have SC : Hid (∀ (a b : Value) (l : List Ce) (W : World), SlAt a l W → SlAt b l W → Calls Try.prog 12 #[a, b] W fun e w' => e = .returned (.bool true) ∧ Below W.heap.size W w') := Lib.hid (fun a b l W h k => by
      have := sameCells_any a b l l W h k
      rwa [decide_eq_true rfl] at this)
    have hqq : (decQ s != decQ s) = false := by simp
    have HL : Hid ((decL s).length ≤ 5000) := Lib.hid (by
      unfold decL
      cases h : decB s with
      | none => simp
      | some l =>
        have h1 := (decB_some h).2.1
        have h2 : l.length ≤ s.length := by
          rw [← h1]
          have : ∀ (l : List Ce) (p : Option Ce), l.length ≤ (bodyB p l).length := by
            intro l
            induction l with
            | nil => intro p; simp
            | cons c l ih =>
              intro p
              have h3 := ih (some c)
              have h4 := put_length_pos (common (lastKey p) c.k)
              simp only [bodyB, cellBytes, List.length_append, List.length_cons]
              omega
          have h5 := this l none
          unfold blockB
          rw [List.length_append]
          omega
        simp only [Option.getD_some]
        omega)
    obtain ⟨q, hq⟩ : ∃ q, decQ s = q := ⟨_, rfl⟩
    obtain ⟨l, hl⟩ : ∃ l, decL s = l := ⟨_, rfl⟩
    rw [hq] at hqq
    rw [hl] at HL
    have HQ := Lib.hid hq
    have HLL := Lib.hid hl
    clear c1 c2 hq hl
    go_enter Try.func3, Try.ntmps3
    go_wp2_with fail
    refine (C1.out _).mono ?_
    rintro e1 w1 hh1
    obtain ⟨b1, v1, rfl, own1⟩ := hh1.one
    rw [HQ.out]
    rw [HLL.out] at own1
    have HG1 : Hid (∀ g, v1.ownBlock = some g → w.heap.size ≤ g ∧ g < w1.heap.size) := Lib.hid (fun g h => own1.lt g h)
    have B := b1
    clear b1 hh1
    go_wp2_with fail
    refine (C2.out _).mono ?_
    rintro e2 w2 hh2
    obtain ⟨b2, v2, rfl, own2⟩ := hh2.one
    rw [HQ.out]
    rw [HLL.out] at own2
    have HG2 : Hid (∀ g, v2.ownBlock = some g → w1.heap.size ≤ g) := Lib.hid (fun g h => (own2.lt g h).1)
    have B := btB B b2
    have own1 := own_later own1 b2
    clear b2 hh2
    go_wp2_with fail
    refine (SC.out _ _ l _ (slAt_own own1) (slAt_own own2)).mono ?_
    rintro e w3 ⟨rfl, b3⟩
    have B := btB B b3
    have own1 := own_later own1 b3
    have sl2 := (slAt_own own2).later b3
    clear b3 own2
    rcases own1.2 with ⟨rfl, h0⟩ | ⟨g1, cap, cur, rfl, hb1, hg1, hnc, hcm, hcs, _⟩
    · obtain rfl : l = [] := List.eq_nil_of_length_eq_zero h0
      clear own1
      go_wp2_with fail
      refine wp_loop_rounds 1 ?_
      rw [rounds_succ]
      go_wp2_with fail
      refine (C1.out _).mono ?_
      rintro e4 w5 h4
      obtain ⟨b5, v3, rfl, own3⟩ := h4.one
      rw [HQ.out]
      rw [HLL.out] at own3
      have B := btB B b5
      have sl2 := sl2.later b5
      clear b5 h4
      go_wp2_with fail
      refine (SC.out _ _ [] _ (slAt_own own3) sl2).mono ?_
      rintro e w6 ⟨rfl, b6⟩
      have B := btB B b6
      clear b6
      go_wp2_with fail
      refine (CDO.out _).mono ?_
      rintro e w7 ⟨rfl, b7⟩
      have B := btB B b7
      go_wp2_with fail
      go_ret
      exact ⟨rfl, B⟩
    · have hgs := HG1.out g1 rfl
      have hne : v2.ownBlock ≠ some g1 := fun e => by have := HG2.out g1 e; omega
      have HNE := Lib.hid hne
      have HGS := Lib.hid hgs
      obtain ⟨n, hn⟩ : ∃ n, l.length = n := ⟨_, rfl⟩
      have HN := Lib.hid hn
      have hln := HL.out
      rw [hn] at hnc hln ⊢
      unfold maxLen at hcm
      have HG : Hid (∃ cur, w3.heap[g1]? = some (.cells cur 28 (0, 0)) ∧ cur.size = cap * 3) := Lib.hid ⟨cur, hg1, hcs⟩
      clear own1 hgs hne hn hg1 hcs hb1
      go_wp2_with fail
      go_loopw [7] (fun i wr => ∃ k : Nat, k ≤ n ∧ i = .int .i64 k ∧ (∃ cur, wr.heap[g1]? = some (.cells cur 28 (0, 0)) ∧ cur.size = cap * 3) ∧ SlAt v2 l wr ∧ Below w.heap.size w wr) (fun i _ => n - (intOf i).toNat)
      case atStart => exact ⟨0, by omega, rfl, HG.out, sl2, B⟩
      case round =>
        clear sl2 B
        obtain ⟨k, hk, rfl, ⟨cur, hg, hcs⟩, sl2, B⟩ := hrel
        by_cases hlt : k < n
        · obtain ⟨⟨y0, x0⟩, z0⟩ := row_cell hg hcs (k := k) (j := 0) (by omega) (by omega)
          obtain ⟨⟨y1, x1⟩, z1⟩ := row_cell hg hcs (k := k) (j := 1) (by omega) (by omega)
          obtain ⟨⟨y2, x2⟩, z2⟩ := row_cell hg hcs (k := k) (j := 2) (by omega) (by omega)
          simp only [Nat.add_zero] at x0 z0
          obtain ⟨c1, hg, hcs⟩ := rowc_set hg hcs (k * 3) (.string ⟨#[]⟩)
          obtain ⟨c2, hg, hcs⟩ := rowc_set hg hcs (k * 3 + 1) (.int .i64 (-9))
          obtain ⟨c3, hg, hcs⟩ := rowc_set hg hcs (k * 3 + 2) (.string ⟨#[]⟩)
          have sl2 := slAt_set (slAt_set (slAt_set sl2 HNE.out (k * 3) (.string ⟨#[]⟩)) HNE.out (k * 3 + 1) (.int .i64 (-9))) HNE.out (k * 3 + 2) (.string ⟨#[]⟩)
          have B := below_set (below_set (below_set B HGS.out.1 (k * 3) (.string ⟨#[]⟩)) HGS.out.1 (k * 3 + 1) (.int .i64 (-9))) HGS.out.1 (k * 3 + 2) (.string ⟨#[]⟩)
          have HG3 := Lib.hid hg
          clear hg
          go_wp2_with fail
          go_roundw
          case rel => exact ⟨k + 1, by omega, by go_num, ⟨c3, HG3.out, hcs⟩, sl2, B⟩
          case measure => simp [intOf]; omega
        · obtain rfl : k = n := by omega
          clear hg
          go_wp2_with fail
          refine (C1.out _).mono ?_
          rintro e4 w5 h4
          obtain ⟨b5, v3, rfl, own3⟩ := h4.one
          rw [HQ.out]
          rw [HLL.out] at own3
          have B := btB B b5
          have sl2 := sl2.later b5
          clear b5 h4
          go_wp2_with fail
          refine (SC.out _ _ l _ (slAt_own own3) sl2).mono ?_
          rintro e w6 ⟨rfl, b6⟩
          have B := btB B b6
          clear b6
          go_wp2_with fail
          refine (CDO.out _).mono ?_
          rintro e w7 ⟨rfl, b7⟩
          have B := btB B b7
          go_wp2_with fail
          go_ret
          exact ⟨rfl, B⟩
end Go.Proofs.Ytglonbkhocnplaa
