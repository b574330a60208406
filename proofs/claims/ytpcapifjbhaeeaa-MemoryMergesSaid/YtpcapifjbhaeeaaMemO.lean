/- The walk of MemoryParts. -/
import Derived.Test.YtpcapifjbhaeeaaMemN
namespace Go.Proofs.Ytpcapifjbhaeeaa
set_option maxRecDepth 16000
open Go.RowKit Spoor
set_option linter.unusedVariables false

theorem great_yes {l : List Ce} {m : Nat} (h : greatL l m = false) : l.length ≤ m ∧ ∀ c ∈ l, c.k.length ≤ 1000 ∧ c.v.length ≤ 1000 := by
  unfold greatL at h
  rw [Bool.or_eq_false_iff, decide_eq_false_iff_not, List.any_eq_false] at h
  refine ⟨by omega, fun c hc => ?_⟩
  have := h.2 c hc
  unfold greatC at this
  simp only [Bool.or_eq_true, decide_eq_true_eq, not_or] at this
  omega
theorem fits_great {l : List Ce} {m : Nat} (h : greatL l m = false) (hw : ∀ c ∈ l, WfC c) : ∀ c ∈ l, FitsC c := fun c hc => by
  have := (great_yes h).2 c hc
  exact ⟨by omega, by omega, (hw c hc).2.2⟩
/-- cells appended to cells -/
theorem run_append_sl {base : Nat} {v u : Value} {l m : List Ce} {w : World} (own : w.ownsRow base 33 3 v l.length (rowOf l)) (hb : base ≤ w.heap.size) (hu : SlAt u m w) (hsz : l.length + m.length ≤ 100000) :
    ∃ v' w', (Builtin.append_ #[22, 22] 22 #[v, u]).run Try.prog w = .ok v' w' ∧ w'.ownsRow base 33 3 v' (l ++ m).length (rowOf (l ++ m)) ∧ Below base w w' := by
  obtain ⟨j0, gi, gz0, gz1, gz2⟩ := info_one info_ce
  obtain ⟨A, cap, rfl, h1, h2, h3⟩ := hu
  obtain ⟨v', w', hr, r1, r2⟩ := run_append_every2 w 22 22 22 base 33 33 j0 _ 3 40 Try.underlying22 Try.underlying22 gi gz0 gz1 gz2 rfl (by decide) v l.length (rowOf l) own A m.length cap (rowOf m) (rowOf_length m)
    (fun h0 => by
      obtain ⟨b, o, rfl, hrow⟩ := h3 h0
      exact ⟨_, rfl, row_all hrow⟩) (rowOf_one m) (by unfold maxLen; omega) (by omega) hb
  refine ⟨v', w', hr, ?_, ?_⟩
  · rw [List.length_append]
    have : rowOf (l ++ m) = rowOf l ++ rowOf m := by simp [rowOf]
    rw [this]
    exact r1
  · refine (Below.refl base w).grown r2 hb fun k hk => ?_
    rcases own.2 with ⟨rfl, _⟩ | ⟨g, c, cur, rfl, hg, _⟩
    · simp [Value.ownBlock] at hk
    · have : g = k := by simpa [Value.ownBlock] using hk
      omega
theorem own_none (w : World) : (w.alloc (.cells #[] 33)).ownsRow w.heap.size 33 3 (.slice (some ⟨w.heap.size, 0, none⟩) 0 0) ([] : List Ce).length (rowOf []) :=
  ⟨rfl, .inr ⟨w.heap.size, 0, #[], rfl, Nat.le_refl _, heap_alloc_new w _, Nat.le_refl _, by unfold maxLen; omega, rfl, rfl⟩⟩

theorem mem_putsC {x : Ce} : ∀ {l acc : List Ce}, x ∈ putsC acc l → x ∈ acc ∨ x ∈ l
  | [], acc, h => .inl h
  | c :: l, acc, h => by
    rcases mem_putsC (l := l) (acc := putC acc c) h with h | h
    · rcases putC_mem h with ⟨rfl, _⟩ | h
      · exact .inr (by simp)
      · exact .inl h
    · exact .inr (by simp [h])
theorem fits_puts {l acc : List Ce} (ha : ∀ c ∈ acc, FitsC c) (hl : ∀ c ∈ l, FitsC c) : ∀ c ∈ putsC acc l, FitsC c := fun c hc => by
  rcases mem_putsC hc with h | h
  · exact ha c h
  · exact hl c h
/-- a memory and the parts of it, and what was asked of them -/
def PartsAt (w : World) (p pa pb : Nat) (va vx vy : Value) (M X Y : List Ce) (W : World) : Prop :=
  (St w.heap.size p M [] W ∧ St w.heap.size pa X [] W ∧ St w.heap.size pb Y [] W) ∧ (SlAt va M W ∧ SlAt vx X W ∧ SlAt vy Y W) ∧ Below w.heap.size w W
theorem PartsAt.later {w : World} {p pa pb : Nat} {va vx vy : Value} {M X Y : List Ce} {W W' : World} (h : PartsAt w p pa pb va vx vy M X Y W) (hb : Below W.heap.size W W') : PartsAt w p pa pb va vx vy M X Y W' :=
  ⟨⟨h.1.1.later hb, h.1.2.1.later hb, h.1.2.2.later hb⟩, ⟨h.2.1.1.later hb, h.2.1.2.1.later hb, h.2.1.2.2.later hb⟩, btP h.2.2 hb⟩
theorem SlAt.val {v : Value} {l : List Ce} {w : World} (h : SlAt v l w) : ∃ A cap, v = .slice A l.length cap ∧ l.length ≤ cap ∧ cap ≤ 9223372036854775807 ∧ (0 < l.length → ∃ b o, A = some ⟨b, o, none⟩ ∧ RowAt b o l w) := by
  obtain ⟨A, cap, h1, h2, h3, h4⟩ := h
  exact ⟨A, cap, h1, h2, by unfold maxLen at h3; omega, h4⟩
set_option maxHeartbeats 4000000 in
theorem memoryParts_yes (w : World) (v : Value) (l : List Ce) (key : List UInt8) (hs : SlAt v l w) (hw : ∀ c ∈ l, WfC c) (hk : ¬ (1000 : Int) < (key.length : Int)) (hg : greatL l 200 = false) :
    Calls Try.prog 6 #[v, .string ⟨key.toArray⟩] w fun e w' => e = .returned (.bool true) ∧ Below w.heap.size w w' := by
  have cg := greatL_any v l 200 w hs hw (by omega)
  rw [hg] at cg
  have hf := fits_great hg hw
  have hlen := (great_yes hg).1
  have hM := puts_length l []
  have hR := puts_rise (l := l) (acc := []) (by simp [Rise])
  have hA := puts_may (l := l) (acc := []) (by simp)
  have PU := Lib.hid (fun W (h : SlAt v l W) => put_any v l W h (by omega) hf)
  obtain ⟨M, hMe⟩ : ∃ M, putsC [] l = M := ⟨_, rfl⟩
  rw [hMe] at hM hR hA PU
  simp only [List.length_nil, Nat.zero_add] at hM
  have hML : M.length ≤ 200 := Nat.le_trans hM hlen
  have hfM : ∀ c ∈ M, FitsC c := hMe ▸ fits_puts (by simp) hf
  have e1 := decide_eq_false hk
  have CG := Lib.hid cg
  obtain ⟨X, hX⟩ : ∃ X, lowC M key = X := ⟨_, rfl⟩
  obtain ⟨Y, hY⟩ : ∃ Y, highC M key = Y := ⟨_, rfl⟩
  have hXM : X.length ≤ M.length := hX ▸ List.length_filter_le _ _
  have hYM : Y.length ≤ M.length := hY ▸ List.length_filter_le _ _
  have hXY : X ++ Y = M := by rw [← hX, ← hY]; exact low_high hR key
  have hXf : ∀ c ∈ X, FitsC c := fun c hc => hfM c (List.mem_filter.1 (show c ∈ lowC M key by rw [hX]; exact hc)).1
  have hYf : ∀ c ∈ Y, FitsC c := fun c hc => hfM c (List.mem_filter.1 (show c ∈ highC M key by rw [hY]; exact hc)).1
  have hJ1 : putsC X Y = M := by rw [← hX, ← hY]; exact join_low_high hR hA key
  have hJ2 : putsC Y X = M := by rw [← hX, ← hY]; exact join_high_low hR hA key
  have hKX : ∀ i, i < X.length → Op.bytesLess (X.getD i Ce.zero).k key = true := fun i hi => getD_lt (P := fun c => Op.bytesLess c.k key = true) (fun c hc => low_key c (hX ▸ hc)) hi
  have hKY : ∀ i, i < Y.length → Op.bytesLess (Y.getD i Ce.zero).k key = false := fun i hi => getD_lt (P := fun c => Op.bytesLess c.k key = false) (fun c hc => high_key c (hY ▸ hc)) hi
  have hXYl : X.length + Y.length = M.length := by rw [← hXY, List.length_append]
  have HXY := Lib.hid (And.intro hXY (And.intro hJ1 hJ2))
  have HFF := Lib.hid (And.intro hXf hYf)
  have HKX := Lib.hid hKX
  have HKY := Lib.hid hKY
  have HS0 := Lib.hid hs
  have HCX := Lib.hid (And.intro hX hY)
  have HXYl := Lib.hid hXYl
  clear cg hf hM hR hA hMe hlen hfM hX hY hXY hXf hYf hJ1 hJ2 hKX hKY hg hs hw hXYl
  go_enter Try.func6, Try.ntmps6
  go_wp2_with fail
  refine CG.out.mono ?_
  rintro e w1 ⟨rfl, b1⟩
  have hs := HS0.out.later b1
  have PC := Lib.hid (PU.out w1 hs)
  have HB := Lib.hid b1
  clear hs b1 CG PU HS0
  go_wp2_with fail
  refine PC.out.mono ?_
  rintro e w2 ⟨p, fs, rfl, M2, h2, b2⟩
  have B := btP HB.out b2
  have l1 := HB.out.size
  have S2 : St w.heap.size p M [] w2 := St.new M2 (fun x hx => Nat.le_trans l1 (h2 x hx))
  have rc := S2.range (by omega) [] []
  have HS := Lib.hid S2
  have RC := Lib.hid rc
  have HB2 := Lib.hid B
  clear M2 h2 b2 B l1 S2 rc HB PC
  go_wp2_with fail
  refine RC.out.mono ?_
  rintro e w3 ⟨b3, va, rfl, own⟩
  rw [rangeC_all] at own
  have sa := slAt_own own
  have S3 := HS.out.later b3
  have B3 := btP HB2.out b3
  have l3 := B3.size
  have cc := S3.cut l3 (by omega) key
  rw [HCX.out.1, HCX.out.2] at cc
  have CC := Lib.hid cc
  have HSA := Lib.hid sa
  have HB3 := Lib.hid B3
  clear own sa S3 B3 l3 cc b3 HS RC HB2
  go_wp2_with fail
  refine CC.out.mono ?_
  rintro e w4 ⟨pa, pb, rfl, SA, SB, SM, b4⟩
  have sa := HSA.out.later b4
  have B4 := btP HB3.out b4
  have ra := SA.range (by omega) [] []
  have RA := Lib.hid ra
  have HG := Lib.hid (And.intro SA (And.intro SB (And.intro SM (And.intro sa B4))))
  clear SA SB SM sa B4 ra b4 HB3 HSA CC
  go_wp2_with fail
  refine RA.out.mono ?_
  rintro e w5 ⟨b5, vx, rfl, own⟩
  rw [rangeC_all] at own
  have sx := slAt_own own
  obtain ⟨SA, SB, SM, sa, B4⟩ := HG.out
  have rb := (SB.later b5).range (by omega) [] []
  have RB := Lib.hid rb
  have HG2 := Lib.hid (And.intro (SA.later b5) (And.intro (SB.later b5) (And.intro (SM.later b5) (And.intro (sa.later b5) (And.intro sx (btP B4 b5))))))
  clear SA SB SM sa B4 b5 own sx rb HG RA
  go_wp2_with fail
  refine RB.out.mono ?_
  rintro e w6 ⟨b6, vy, rfl, own⟩
  rw [rangeC_all] at own
  have sy := slAt_own own
  obtain ⟨SA, SB, SM, sa, sx, B4⟩ := HG2.out
  have P6 : PartsAt w p pa pb va vx vy M X Y w6 := ⟨⟨SM.later b6, SA.later b6, SB.later b6⟩, ⟨sa.later b6, sx.later b6, sy⟩, btP B4 b6⟩
  have HP := Lib.hid P6
  have HVX := Lib.hid (sx.later b6)
  have HVY := Lib.hid sy
  clear SA SB SM sa sx B4 b6 own sy P6 HG2 RB
  obtain ⟨Ax, cx, rfl, x1, x2, x3⟩ := HVX.out.val
  obtain ⟨Ay, cy, rfl, y1, y2, y3⟩ := HVY.out.val
  have HX3 := Lib.hid x3
  have HY3 := Lib.hid y3
  obtain ⟨nx, hnx⟩ : ∃ nx, X.length = nx := ⟨_, rfl⟩
  obtain ⟨ny, hny⟩ : ∃ ny, Y.length = ny := ⟨_, rfl⟩
  have HNX := Lib.hid hnx
  have HNY := Lib.hid hny
  rw [hnx] at x1 HP hXM ⊢
  rw [hny] at y1 HP hYM ⊢
  clear x3 y3 hnx hny HVX HVY
  go_wp2_with fail
  go_loopw [11] (fun i wr => ∃ k : Nat, i = .int .i64 k ∧ k ≤ nx ∧ wr = w6) (fun i _ => nx - (intOf i).toNat)
  case atStart => exact ⟨0, rfl, by omega, rfl⟩
  case round =>
    obtain ⟨k, rfl, hk, rfl⟩ := hrel
    by_cases hlt : k < nx
    · have hkl : k < X.length := by rw [HNX.out]; exact hlt
      obtain ⟨bx, ox, rfl, hrow⟩ := HX3.out (by omega)
      have hcs := (hrow.cells hkl).1
      have hkey := HKX.out k hkl
      generalize X.getD k Ce.zero = c at *
      clear hrow hkl
      go_wp2_with fail
      go_roundw
      case rel => exact ⟨k + 1, rfl, by omega, by simp⟩
      case measure => simp [intOf]; omega
    · obtain rfl : k = nx := by omega
      go_wp2_with fail
      go_loopw [12] (fun i w' => ∃ k : Nat, i = .int .i64 k ∧ k ≤ ny ∧ w' = wr) (fun i _ => ny - (intOf i).toNat)
      case atStart => exact ⟨0, rfl, by omega, by simp⟩
      case round =>
        obtain ⟨j, rfl, hj, rfl⟩ := hrel
        by_cases hlt2 : j < ny
        · have hjl : j < Y.length := by rw [HNY.out]; exact hlt2
          obtain ⟨by', oy, rfl, hrow⟩ := HY3.out (by omega)
          have hcs := (hrow.cells hjl).1
          have hkey := HKY.out j hjl
          generalize Y.getD j Ce.zero = c at *
          clear hrow hjl
          go_wp2_with fail
          go_roundw
          case rel => exact ⟨j + 1, rfl, by omega, by simp⟩
          case measure => simp [intOf]; omega
        · obtain rfl : j = ny := by omega
          clear hlt hlt2 HX3 HY3 hk hj HKX HKY
          have P6 := HP.out
          have n1 := (Below.refl wr.heap.size wr).alloc (Nat.le_refl _) (.cells #[] 33)
          obtain ⟨v7, w7, run7, own7, b7⟩ := run_append_sl (own_none wr) n1.size (P6.2.1.2.1.later n1) (by have := HNX.out; simp only [List.length_nil]; omega)
          rw [List.nil_append] at own7
          have n7 := n1.trans b7
          obtain ⟨v8, w8, run8, own8, b8⟩ := run_append_sl own7 n7.size (P6.2.1.2.2.later n7) (by have := HNX.out; have := HNY.out; omega)
          rw [HXY.out.1] at own8
          have s8 := slAt_own own8
          have P8 := P6.later (n7.trans b8)
          have sc := sl_two _ _ _ _ s8 _ P8.2.1.1 rfl
          have R7 := Lib.hid run7
          have R8 := Lib.hid run8
          have SC := Lib.hid sc
          have HP8 := Lib.hid P8
          clear run7 run8 own7 own8 b7 b8 n1 n7 s8 P6 P8 sc HP
          go_wp2_with (at_builtin; first | refine wpList_append_runE _ rfl _ _ 22 22 rfl _ _ rfl rfl R7.out ?_ | refine wpList_append_runE _ rfl _ _ 22 22 rfl _ _ rfl rfl R8.out ?_)
          refine SC.out.mono ?_
          rintro e w9 ⟨rfl, b9⟩
          have P9 := HP8.out.later b9
          have l9 := P9.2.2.size
          have jc := P9.1.2.1.join P9.1.2.2 l9 (by have := HNX.out; have := HNY.out; omega) HFF.out.2
          rw [HXY.out.2.1] at jc
          have JC := Lib.hid jc
          have HP9 := Lib.hid P9
          clear P9 l9 jc b9 SC R7 R8 HP8
          go_wp2_with fail
          refine JC.out.mono ?_
          rintro e w10 ⟨pj, rfl, SJ, b10⟩
          have P10 := HP9.out.later b10
          have rc := SJ.range (by omega) [] []
          have RC := Lib.hid rc
          have HP10 := Lib.hid P10
          clear P10 rc SJ b10 JC HP9
          go_wp2_with fail
          refine RC.out.mono ?_
          rintro e w11 ⟨b11, v11, rfl, own⟩
          rw [rangeC_all] at own
          have P11 := HP10.out.later b11
          have sc := sl_two _ _ _ _ (slAt_own own) _ P11.2.1.1 rfl
          have SC := Lib.hid sc
          have HP11 := Lib.hid P11
          clear P11 sc own b11 RC HP10
          go_wp2_with fail
          refine SC.out.mono ?_
          rintro e w12 ⟨rfl, b12⟩
          have P12 := HP11.out.later b12
          have l12 := P12.2.2.size
          have jc := P12.1.2.2.join P12.1.2.1 l12 (by have := HNX.out; have := HNY.out; omega) HFF.out.1
          rw [HXY.out.2.2] at jc
          have JC := Lib.hid jc
          have HP12 := Lib.hid P12
          clear P12 l12 jc b12 SC HP11
          go_wp2_with fail
          refine JC.out.mono ?_
          rintro e w13 ⟨pk, rfl, SJ, b13⟩
          have P13 := HP12.out.later b13
          have rc := SJ.range (by omega) [] []
          have RC := Lib.hid rc
          have HP13 := Lib.hid P13
          clear P13 rc SJ b13 JC HP12
          go_wp2_with fail
          refine RC.out.mono ?_
          rintro e w14 ⟨b14, v14, rfl, own⟩
          rw [rangeC_all] at own
          have P14 := HP13.out.later b14
          have sc := sl_two _ _ _ _ (slAt_own own) _ P14.2.1.1 rfl
          have SC := Lib.hid sc
          have HP14 := Lib.hid P14
          clear P14 sc own b14 RC HP13
          go_wp2_with fail
          refine SC.out.mono ?_
          rintro e w15 ⟨rfl, b15⟩
          have P15 := HP14.out.later b15
          have lc := P15.1.2.1.len (by have := HNX.out; omega)
          rw [HNX.out] at lc
          have LC := Lib.hid lc
          have HP15 := Lib.hid P15
          clear P15 lc b15 SC HP14
          go_wp2_with fail
          refine LC.out.mono ?_
          rintro e w16 ⟨rfl, b16⟩
          have P16 := HP15.out.later b16
          have lc := P16.1.2.2.len (by have := HNY.out; omega)
          rw [HNY.out] at lc
          have LC2 := Lib.hid lc
          have HP16 := Lib.hid P16
          clear P16 lc b16 LC HP15
          go_wp2_with fail
          refine LC2.out.mono ?_
          rintro e w17 ⟨rfl, b17⟩
          have P17 := HP16.out.later b17
          have lc := P17.1.1.len (by omega)
          have hsum : ((M.length : Nat) : Int) = (k : Int) + (j : Int) := by have := HNX.out; have := HNY.out; have := HXYl.out; omega
          rw [hsum] at lc
          have LC := Lib.hid lc
          have HB17 := Lib.hid P17.2.2
          have hw1 : wrap64 ((k : Int) + (j : Int)) = (k : Int) + (j : Int) := by unfold wrap64; omega
          clear P17 lc b17 LC2 HP16 hsum
          go_wp2_with fail
          refine LC.out.mono ?_
          rintro e w18 ⟨rfl, b18⟩
          have B18 := btP HB17.out b18
          have HB18 := Lib.hid B18
          clear B18 b18 HB17 LC
          go_wp2_with fail
          refine (mdoes_true _).mono ?_
          rintro e w19 ⟨rfl, b19⟩
          have B19 := btP HB18.out b19
          clear b19 HB18
          go_wp2_with fail
          go_ret
          exact ⟨rfl, B19⟩
theorem memoryParts_law (w : World) (v : Value) (l : List Ce) (key : ByteArray) (hs : SlAt v l w) (hn : v = .slice none 0 0 ∨ ∃ ad n c, v = .slice (some ad) n c) (hw : ∀ c ∈ l, WfC c) (hkk : key.size ≤ 140737488351232) :
    Calls Try.prog 6 #[v, .string key] w fun e w' => e = .returned (.bool true) ∧ Below w.heap.size w w' := by
  have es : key = ⟨key.data.toList.toArray⟩ := by cases key; simp
  rw [es] at hkk ⊢
  have hkl : key.data.toList.length ≤ 140737488351232 := hkk
  generalize key.data.toList = key at *
  have cg := greatL_any v l 200 w hs hw (by omega)
  cases hg : greatL l 200 with
  | true =>
    rw [hg] at cg
    have CG := Lib.hid cg
    clear cg hg hw hs
    go_enter Try.func6, Try.ntmps6
    go_wp2_with fail
    refine CG.out.mono ?_
    rintro e w1 ⟨rfl, b1⟩
    go_wp2_with fail
    go_ret
    exact ⟨rfl, b1⟩
  | false =>
    by_cases hk : (1000 : Int) < (key.length : Int)
    · rw [hg] at cg
      have CG := Lib.hid cg
      clear cg hg hw hs
      go_enter Try.func6, Try.ntmps6
      go_wp2_with fail
      refine CG.out.mono ?_
      rintro e w1 ⟨rfl, b1⟩
      go_wp2_with fail
      go_ret
      exact ⟨rfl, b1⟩
    · exact memoryParts_yes w v l key hs hw hk hg
end Go.Proofs.Ytpcapifjbhaeeaa
