/- The walk of PostsDecode. -/
import Derived.Test.YtheeekmhmbkncaaPostsN
namespace Go.Proofs.Ytheeekmhmbkncaa
open Go.RowKit Spoor
set_option linter.unusedVariables false

/-- what both decoders tell, its parts named -/
def DecFix (s : List UInt8) (b : Ba) (q : Int) (n : Nat) (w : World) (e : Ending) (w' : World) : Prop :=
  Below w.heap.size w w' ∧ ∃ (A : Option Addr) (c : Nat), e = .returned (.tuple #[.agg #[.int .i64 b.ho, .int .i64 b.fi, .slice A n c], .int .i64 q]) ∧ SlS (.slice A n c) b.sp w' ∧ w'.ownsRow w.heap.size 29 8 (.slice A n c) n (rowS b.sp)
theorem decFix {s : List UInt8} {b : Ba} {q : Int} {n : Nat} (hb : (decBa s).getD ⟨0, 0, []⟩ = b) (hq : codeO (decBa s) = q) (hn : b.sp.length = n) {w : World} {e : Ending} {w' : World} (h : DecBaEx s w e w') : DecFix s b q n w e w' := by
  obtain ⟨h1, b', A, c, rfl, h3, h4, h5⟩ := decBa_out h
  rw [hb] at h5
  subst h5
  rw [hn] at h3 h4 ⊢
  rw [hq]
  exact ⟨h1, A, c, rfl, h3, h4⟩
theorem dec_len (s : List UInt8) : ((decBa s).getD ⟨0, 0, []⟩).sp.length ≤ 8 := by
  cases h : decBa s with
  | none => simp
  | some b =>
    have := (decBa_some h).1
    unfold Ba.ok at this
    simp only [Bool.and_eq_true] at this
    have := okNums this.1
    simp only [Option.getD_some]
    omega
theorem decAkV_fix (s : List UInt8) : decAkV (decAk s) = .tuple #[.agg #[.int .i64 ((decAk s).getD ⟨0, 0, 0⟩).ho, .int .i64 ((decAk s).getD ⟨0, 0, 0⟩).fi, .int .i64 ((decAk s).getD ⟨0, 0, 0⟩).ne], .int .i64 (codeO (decAk s))] := by
  cases decAk s <;> rfl
structure DeAt (w : World) (p1 p2 : Nat) (b : Ba) (A : Option Addr) (n cap : Nat) (v2 : Value) (wr : World) : Prop where
  row : ∀ g, A = some ⟨g, 0, none⟩ → ∃ cur : Array Value, wr.heap[g]? = some (.cells cur 29 (0, 0)) ∧ cur.size = cap * 8
  b1 : BaAt p1 b (.slice A n cap) wr
  b2 : BaAt p2 b v2 wr
  sl : SlS v2 b.sp wr
  bel : Below w.heap.size w wr
theorem slS_set {g : Nat} {v : Value} {l : List Sp} {w : World} (h : SlS v l w) (hne : v.ownBlock ≠ some g) (o : Nat) (x : Value) : SlS v l (w.setCell ⟨g, o, none⟩ x) := by
  obtain ⟨A, cap, rfl, h1, h2, h3⟩ := h
  refine ⟨A, cap, rfl, h1, h2, fun hl => ?_⟩
  obtain ⟨b, o2, rfl, hrow⟩ := h3 hl
  have hbg : b ≠ g := by simpa [Value.ownBlock] using hne
  refine ⟨b, o2, rfl, ?_, fun i hi j u hj => ?_⟩
  · have := hrow.1
    simpa [World.setCell] using this
  · have := hrow.2 i hi j u hj
    rw [World.cell?_of_block (w := w) (Below.heap_setCell w _ _ _ hbg)]
    exact this
theorem DeAt.later {w : World} {p1 p2 : Nat} {b : Ba} {A : Option Addr} {n cap : Nat} {v2 : Value} {wr w' : World} (h : DeAt w p1 p2 b A n cap v2 wr) (hb : Below wr.heap.size wr w') : DeAt w p1 p2 b A n cap v2 w' :=
  ⟨fun g hg => (h.row g hg).imp fun _ k => ⟨blk_later k.1 hb, k.2⟩, h.b1.later hb, h.b2.later hb, h.sl.later hb, btP h.bel hb⟩
theorem DeAt.set {w : World} {p1 p2 : Nat} {b : Ba} {g : Nat} {n cap : Nat} {v2 : Value} {wr : World} (h : DeAt w p1 p2 b (some ⟨g, 0, none⟩) n cap v2 wr) (h1 : p1 ≠ g) (h2 : p2 ≠ g) (h3 : v2.ownBlock ≠ some g) (h4 : w.heap.size ≤ g) (o : Nat) (x : Value) : DeAt w p1 p2 b (some ⟨g, 0, none⟩) n cap v2 (wr.setCell ⟨g, o, none⟩ x) := by
  refine ⟨fun g' hg => ?_, blk_other h.b1 _ h1 _, blk_other h.b2 _ h2 _, slS_set h.sl h3 _ _, h.bel.setCell (p := ⟨g, o, none⟩) h4 _⟩
  simp only [Option.some.injEq, Addr.mk.injEq, and_true] at hg
  subst hg
  obtain ⟨cur, k1, k2⟩ := h.row g rfl
  exact ⟨_, heap_setCell_same wr g o _ _ x k1, by simpa using k2⟩
theorem DeAt.cell {w : World} {p1 p2 : Nat} {b : Ba} {g : Nat} {n cap : Nat} {v2 : Value} {wr : World} (h : DeAt w p1 p2 b (some ⟨g, 0, none⟩) n cap v2 wr) {i : Nat} (hi : i < cap * 8) : (∃ x, wr.cell? ⟨g, i, none⟩ = some x) ∧ wr.frozen? ⟨g, i, none⟩ = false := by
  obtain ⟨cur, hg, hs⟩ := h.row g rfl
  constructor
  · exact ⟨cur[i]'(by omega), by rw [cell_of_row wr g _ _ _ _ hg]; simp [show i < cur.size by omega]⟩
  · simp [World.frozen?, hg]
set_option maxRecDepth 100000 in
set_option maxHeartbeats 16000000 in
theorem postsDecode_law (s : ByteArray) (hs : s.size ≤ 140737488351232) (w : World) :
    Calls Try.prog 4 #[.string s] w fun e w' => e = .returned (.bool true) ∧ Below w.heap.size w w' := by
  have es : s = ⟨s.data.toList.toArray⟩ := by cases s; simp
  have em : s.size = s.data.toList.length := by rw [Array.length_toList]; rfl
  rw [em] at hs
  rw [es]
  generalize s.data.toList = s at *
  clear es em
  have CDO := Lib.hid does12_true
  by_cases h1 : (3000 : Int) < (s.length : Int)
  · go_enter Try.func4, Try.ntmps4
    go_wp2_with fail
    go_ret
    exact ⟨rfl, Below.refl _ _⟩
  · have hln := dec_len s
    obtain ⟨b, hb⟩ : ∃ b, (decBa s).getD ⟨0, 0, []⟩ = b := ⟨_, rfl⟩
    obtain ⟨q, hq⟩ : ∃ q, codeO (decBa s) = q := ⟨_, rfl⟩
    rw [hb] at hln
    obtain ⟨n, hn⟩ : ∃ n, b.sp.length = n := ⟨_, rfl⟩
    rw [hn] at hln
    have HLN := Lib.hid hln
    have C1 := Lib.hid (fun W => (decodeBatch_any s W (by omega)).mono fun _ _ h => decFix hb hq hn h)
    have C2 := Lib.hid (fun W => (refDecodeBatch_any s W (by omega)).mono fun _ _ h => decFix hb hq hn h)
    have c3 := fun W => decodeAck_any s W (by omega)
    have c4 := fun W => refDecodeAck_any s W (by omega)
    rw [decAkV_fix] at c3 c4
    obtain ⟨a, ha⟩ : ∃ a, (decAk s).getD ⟨0, 0, 0⟩ = a := ⟨_, rfl⟩
    obtain ⟨g, hg⟩ : ∃ g, codeO (decAk s) = g := ⟨_, rfl⟩
    rw [ha, hg] at c3 c4
    have C3 := Lib.hid c3
    have C4 := Lib.hid c4
    have HN := Lib.hid hn
    have CS : Hid (∀ (A A2 : Option Addr) (c c2 : Nat) (W : World), SlS (.slice A n c) b.sp W → SlS (.slice A2 n c2) b.sp W → Calls Try.prog 14 #[.agg #[.int .i64 b.ho, .int .i64 b.fi, .slice A n c], .agg #[.int .i64 b.ho, .int .i64 b.fi, .slice A2 n c2]] W fun e w' => e = .returned (.bool true) ∧ Below W.heap.size W w') := Lib.hid (fun A A2 c c2 W h k => by
      have := sameBatch_any b b (.slice A n c) (.slice A2 n c2) W h k
      rw [decide_eq_true (rfl : b = b)] at this
      exact this)
    have nk := fun W => neq_ak a a W
    rw [decide_eq_true (rfl : a = a)] at nk
    have NK := Lib.hid nk
    have hqq : (q != q) = false := by simp
    have hgg : (g != g) = false := by simp
    have HQ := Lib.hid (And.intro hqq hgg)
    clear hb hq hn ha hg c3 c4 nk hln hqq hgg
    go_enter Try.func4, Try.ntmps4
    go_wp2_with fail
    refine (C1.out _).mono ?_
    rintro e1 w1 ⟨b1, A, cap, rfl, sl1, own1⟩
    have HA : Hid (∀ g, A = some ⟨g, 0, none⟩ → w.heap.size ≤ g ∧ g < w1.heap.size) := Lib.hid (fun g h => own1.lt g (by rw [h]; rfl))
    have HR : Hid (A = none ∧ n = 0 ∨ ∃ g cur, A = some ⟨g, 0, none⟩ ∧ n ≤ cap ∧ cap ≤ maxLen ∧ w1.heap[g]? = some (.cells cur 29 (0, 0)) ∧ cur.size = cap * 8) := Lib.hid (by
      rcases own1.2 with ⟨h0, h1⟩ | ⟨g1, cap1, cur, h2, hb1, hg1, hnc, hcm, hcs, _⟩
      · injection h0 with h0 _ _
        exact .inl ⟨h0, h1⟩
      · injection h2 with h2 _ h3
        subst h3
        exact .inr ⟨g1, cur, h2, hnc, hcm, hg1, hcs⟩)
    have q1 := heap_alloc_new w1 (.cells #[.int .i64 b.ho, .int .i64 b.fi, .slice A n cap] 24)
    have e1 := (Below.refl w1.heap.size w1).alloc (Nat.le_refl _) (.cells #[.int .i64 b.ho, .int .i64 b.fi, .slice A n cap] 24)
    have B := Lib.hid (btP b1 e1)
    have SL := Lib.hid (sl1.later e1)
    have Q1 := Lib.hid q1
    have E1 := Lib.hid e1
    clear b1 e1 sl1 own1 q1
    go_wp2_with fail
    refine (C2.out _).mono ?_
    rintro e2 w2 ⟨b2, A2, cap2, rfl, sl2, own2⟩
    have HW1 : Hid (w1.heap.size + 1 ≤ w2.heap.size) := Lib.hid (by have := b2.size; rw [alloc_size] at this; exact this)
    have HA2 : Hid (∀ g, A2 = some ⟨g, 0, none⟩ → w1.heap.size + 1 ≤ g) := Lib.hid (fun g h => by have := (own2.lt g (by rw [h]; rfl)).1; rw [alloc_size] at this; exact this)
    have HO2 : Hid (∀ g, (Value.slice A2 n cap2).ownBlock = some g → w1.heap.size + 1 ≤ g) := Lib.hid (fun g h => by have := (own2.lt g h).1; rw [alloc_size] at this; exact this)
    have q2 := heap_alloc_new w2 (.cells #[.int .i64 b.ho, .int .i64 b.fi, .slice A2 n cap2] 24)
    have e2 := (Below.refl w2.heap.size w2).alloc (Nat.le_refl _) (.cells #[.int .i64 b.ho, .int .i64 b.fi, .slice A2 n cap2] 24)
    have M : Hid (DeAt w w1.heap.size w2.heap.size b A n cap (.slice A2 n cap2) (w2.alloc (.cells #[.int .i64 b.ho, .int .i64 b.fi, .slice A2 n cap2] 24))) := Lib.hid ⟨fun g hg => by
      rcases HR.out with ⟨h, _⟩ | ⟨g1, cur, h, _, _, h4, h5⟩
      · rw [h] at hg; cases hg
      · rw [h] at hg
        simp only [Option.some.injEq, Addr.mk.injEq, and_true] at hg
        subst hg
        exact ⟨cur, blk_later (blk_later (blk_later h4 E1.out) b2) e2, h5⟩, blk_later (blk_later Q1.out b2) e2, q2, sl2.later e2, btP (btP B.out b2) e2⟩
    have SL := Lib.hid ((SL.out.later b2).later e2)
    clear b2 e2 sl2 own2 q2 Q1 E1 B
    go_wp2_with fail
    refine (C3.out _).mono ?_
    rintro e3 w3 ⟨rfl, b3⟩
    have q3 := heap_alloc_new w3 (.cells #[.int .i64 a.ho, .int .i64 a.fi, .int .i64 a.ne] 26)
    have e3 := (Below.refl w3.heap.size w3).alloc (Nat.le_refl _) (.cells #[.int .i64 a.ho, .int .i64 a.fi, .int .i64 a.ne] 26)
    have M := Lib.hid ((M.out.later b3).later e3)
    have SL := Lib.hid ((SL.out.later b3).later e3)
    have Q3 := Lib.hid q3
    clear b3 e3 q3
    go_wp2_with fail
    refine (C4.out _).mono ?_
    rintro e4 w4 ⟨rfl, b4⟩
    have q4 := heap_alloc_new w4 (.cells #[.int .i64 a.ho, .int .i64 a.fi, .int .i64 a.ne] 26)
    have e4 := (Below.refl w4.heap.size w4).alloc (Nat.le_refl _) (.cells #[.int .i64 a.ho, .int .i64 a.fi, .int .i64 a.ne] 26)
    have M := Lib.hid ((M.out.later b4).later e4)
    have SL := Lib.hid ((SL.out.later b4).later e4)
    have q3 := blk_later (blk_later Q3.out b4) e4
    have Q3 := Lib.hid q3
    have Q4 := Lib.hid q4
    obtain ⟨y0, y1, y2⟩ := M.out.b1.cell
    obtain ⟨z0, z1, z2⟩ := M.out.b2.cell
    have hqq := HQ.out.1
    clear b4 e4 q3 q4
    go_upto_region 7 with fail
    go_wp2_with fail
    refine (CS.out _ _ _ _ _ SL.out M.out.sl).mono ?_
    rintro e5 w6 ⟨rfl, b6⟩
    have M := Lib.hid (M.out.later b6)
    have q3 := blk_later Q3.out b6
    have q4 := blk_later Q4.out b6
    obtain ⟨u0, u1, u2⟩ := cells3 q3
    obtain ⟨v0, v1, v2⟩ := cells3 q4
    have nk := NK.out
    have hgg := HQ.out.2
    clear b6 y0 y1 y2 z0 z1 z2 q3 q4 Q3 Q4 SL
    go_upto_region 9 with fail
    clear u0 u1 u2 v0 v1 v2 nk NK hgg hqq HQ C2 C3 C4
    have hln := HLN.out
    obtain ⟨y0, y1, y2⟩ := M.out.b1.cell
    go_wp2_with fail
    go_loopw [11] (fun i wr => ∃ k : Nat, k ≤ n ∧ i = .int .i64 k ∧ Hid (DeAt w w1.heap.size w2.heap.size b A n cap (.slice A2 n cap2) wr)) (fun i _ => n - (intOf i).toNat)
    case atStart => exact ⟨0, by omega, rfl, M⟩
    case round =>
      obtain ⟨k, hk, rfl, M⟩ := hrel
      clear y0 y1 y2
      obtain ⟨y0, y1, y2⟩ := M.out.b1.cell
      by_cases hlt : k < n
      · rcases HR.out with ⟨_, h⟩ | ⟨g1, cur, rfl, hnc, hcm, _, _⟩
        · omega
        · have hga := HA.out g1 rfl
          have hw1 := HW1.out
          have n1 : w1.heap.size ≠ g1 := by omega
          have n2 : w2.heap.size ≠ g1 := by omega
          have n3 : (Value.slice A2 n cap2).ownBlock ≠ some g1 := fun e => by have := HO2.out g1 e; omega
          unfold maxLen at hcm
          obtain ⟨⟨a0, x0⟩, f0⟩ := M.out.cell (i := k * 8 + 0) (by omega)
          obtain ⟨⟨a1, x1⟩, f1⟩ := M.out.cell (i := k * 8 + 1) (by omega)
          obtain ⟨⟨a2, x2⟩, f2⟩ := M.out.cell (i := k * 8 + 2) (by omega)
          obtain ⟨⟨a3, x3⟩, f3⟩ := M.out.cell (i := k * 8 + 3) (by omega)
          obtain ⟨⟨a4, x4⟩, f4⟩ := M.out.cell (i := k * 8 + 4) (by omega)
          obtain ⟨⟨a5, x5⟩, f5⟩ := M.out.cell (i := k * 8 + 5) (by omega)
          obtain ⟨⟨a6, x6⟩, f6⟩ := M.out.cell (i := k * 8 + 6) (by omega)
          obtain ⟨⟨a7, x7⟩, f7⟩ := M.out.cell (i := k * 8 + 7) (by omega)
          simp only [Nat.add_zero] at x0 f0
          have M2 := Lib.hid ((((((((((((((((M.out).set n1 n2 n3 hga.1 (k * 8) (.int .i64 0))).set n1 n2 n3 hga.1 (k * 8 + 1) (.int .i64 0))).set n1 n2 n3 hga.1 (k * 8 + 2) (.int .i64 0))).set n1 n2 n3 hga.1 (k * 8 + 3) (.string ⟨#[]⟩))).set n1 n2 n3 hga.1 (k * 8 + 4) (.string ⟨#[]⟩))).set n1 n2 n3 hga.1 (k * 8 + 5) (.int .i64 0))).set n1 n2 n3 hga.1 (k * 8 + 6) (.int .i64 0))).set n1 n2 n3 hga.1 (k * 8 + 7) (.string ⟨#[]⟩))
          clear M hga hw1 n1 n2 n3
          go_wp2_with fail
          go_roundw
          case rel => exact ⟨k + 1, by omega, by go_num, M2⟩
          case measure => simp [intOf]; omega
      · obtain rfl : k = n := by omega
        go_wp2_with fail
        refine (C1.out _).mono ?_
        rintro e7 w7 ⟨b7, A3, cap3, rfl, sl3, own3⟩
        have q5 := heap_alloc_new w7 (.cells #[.int .i64 b.ho, .int .i64 b.fi, .slice A3 k cap3] 24)
        have e7 := (Below.refl w7.heap.size w7).alloc (Nat.le_refl _) (.cells #[.int .i64 b.ho, .int .i64 b.fi, .slice A3 k cap3] 24)
        have M := Lib.hid ((M.out.later b7).later e7)
        have SL := Lib.hid (sl3.later e7)
        obtain ⟨u0, u1, u2⟩ := cells3 q5
        obtain ⟨z0, z1, z2⟩ := M.out.b2.cell
        clear b7 e7 own3 q5 y0 y1 y2 sl3
        go_upto_region 14 with fail
        go_wp2_with fail
        refine (CS.out _ _ _ _ _ SL.out M.out.sl).mono ?_
        rintro e9 w9 ⟨rfl, b9⟩
        have B := Lib.hid (btP M.out.bel b9)
        clear b9 u0 u1 u2 z0 z1 z2
        go_wp2_with fail
        refine (CDO.out _).mono ?_
        rintro e w10 ⟨rfl, b10⟩
        go_wp2_with fail
        go_ret
        exact ⟨rfl, btP B.out b10⟩
end Go.Proofs.Ytheeekmhmbkncaa
