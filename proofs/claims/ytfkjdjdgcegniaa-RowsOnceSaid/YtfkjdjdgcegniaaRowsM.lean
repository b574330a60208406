/- The walk of the reference's Take. -/
import Derived.Test.YtfkjdjdgcegniaaRowsJ
import Derived.Deep.AppendLies
namespace Go.Proofs.Ytfkjdjdgcegniaa
set_option maxRecDepth 16000
open Go.RowKit Spoor
set_option linter.unusedVariables false

theorem sl_at {A : Option Addr} {n cap : Nat} {l : List Sp} {w : World} (h : SlS (.slice A n cap) l w) (hp : 0 < l.length) : ∃ b o, A = some ⟨b, o, none⟩ ∧ RowS b o l w := by
  obtain ⟨A2, c2, he, _, _, hr⟩ := h
  obtain ⟨b, o, h1, h2⟩ := hr hp
  injection he with he _ _
  exact ⟨b, o, he.trans h1, h2⟩
theorem sl_at2 {b o n cap : Nat} {l : List Sp} {w : World} (h : SlS (.slice (some ⟨b, o, none⟩) n cap) l w) (hp : 0 < l.length) : RowS b o l w := by
  obtain ⟨b2, o2, h1, h2⟩ := sl_at h hp
  simp only [Option.some.injEq, Addr.mk.injEq, and_true] at h1
  obtain ⟨rfl, rfl⟩ := h1
  exact h2
def blockS (now : Int) (x y : Sp) : Bool := sameIds y x && !lateB y.st now
theorem anyB_take (P : Sp → Bool) (l : List Sp) (k : Nat) (h : k < l.length) : (l.take (k + 1)).any P = ((l.take k).any P || P (l.getD k Sp.zero)) := by
  rw [take_sp l k h, List.any_append]
  simp
structure RtA (w : World) (tv : Value) (T : List Sp) (lv : Value) (l : List Sp) (now : Int) (k : Nat) (o : Value) (acc : List Sp) (wr : World) : Prop where
  le : k ≤ l.length
  acc' : acc = refTake T now [] (l.take k)
  len : acc.length ≤ k
  own : wr.ownsRow w.heap.size 23 8 o acc.length (rowS acc)
  sT : SlS tv T wr
  sl : SlS lv l wr
  bel : Below w.heap.size w wr
theorem RtA.later {w : World} {tv : Value} {T : List Sp} {lv : Value} {l : List Sp} {now : Int} {k : Nat} {o : Value} {acc : List Sp} {wr w' : World} (h : RtA w tv T lv l now k o acc wr) (hb : Below wr.heap.size wr w') : RtA w tv T lv l now k o acc w' :=
  ⟨h.le, h.acc', h.len, own_laterS h.own hb, h.sT.later hb, h.sl.later hb, btP h.bel hb⟩
theorem RtA.skip {w : World} {tv : Value} {T : List Sp} {lv : Value} {l : List Sp} {now : Int} {k : Nat} {o : Value} {acc : List Sp} {wr : World} (h : RtA w tv T lv l now k o acc wr) (hk : k < l.length) (ht : refTook T now acc (l.getD k Sp.zero) = false) : RtA w tv T lv l now (k + 1) o acc wr := by
  refine ⟨by omega, ?_, by have := h.len; omega, h.own, h.sT, h.sl, h.bel⟩
  rw [take_sp l k hk, refTake_snoc, ← h.acc', ht]
  rfl
theorem RtA.more {w : World} {tv : Value} {T : List Sp} {lv : Value} {l : List Sp} {now : Int} {k : Nat} {o o' : Value} {acc : List Sp} {wr w' : World} {x : Sp} (h : RtA w tv T lv l now k o acc wr) (hk : k < l.length) (hx : l.getD k Sp.zero = x) (ht : refTook T now acc x = true) (hsT : SlS tv T w) (hsl : SlS lv l w)
    (own : w'.ownsRow w.heap.size 23 8 o' (acc.length + 1) (rowS acc ++ spRow x)) (gr : wr.grownBy w' o.ownBlock) : RtA w tv T lv l now (k + 1) o' (acc ++ [x]) w' := by
  have bel := h.bel.grown gr h.bel.size (fun j hj => (h.own.lt j hj).1)
  refine ⟨by omega, ?_, by have := h.len; simp; omega, ?_, hsT.later bel, hsl.later bel, bel⟩
  · rw [take_sp l k hk, refTake_snoc, ← h.acc', hx, ht]
    rfl
  · rw [rowS_snoc, List.length_append]
    exact own
theorem took_eq (T : List Sp) (now : Int) (acc : List Sp) (x : Sp) : refTook T now acc x = ((takes now x && !(T.any (blockS now x))) && !(acc.any fun y => sameIds y x)) := rfl

set_option maxRecDepth 100000 in
set_option maxHeartbeats 16000000 in
theorem refTakeS_any (tv : Value) (T : List Sp) (lv : Value) (l : List Sp) (now : Int) (w : World) (hsT : SlS tv T w) (hsl : SlS lv l w) (hfT : ∀ x ∈ T, I64 x.st) (hf : ∀ x ∈ l, Fits x) (hst : ∀ x ∈ l, I64 x.st) (hn : I64 now) (hlT : T.length ≤ 100000) (hl : l.length ≤ 100000) :
    Calls Try.prog 24 #[tv, lv, .int .i64 now] w fun e w' => Below w.heap.size w w' ∧ ∃ o, e = .returned o ∧ w'.ownsRow w.heap.size 23 8 o (refTake T now [] l).length (rowS (refTake T now [] l)) := by
  have HST := Lib.hid hsT
  have HSL := Lib.hid hsl
  obtain ⟨i0, hi, hz0, hz1, hz2⟩ := info_parts info_sp
  obtain ⟨A1, c1, rfl, t1, t2, -⟩ := hsT
  obtain ⟨A2, c2, rfl, l1, l2, -⟩ := hsl
  unfold maxLen at t2 l2
  obtain ⟨tn, htn⟩ : ∃ tn, T.length = tn := ⟨_, rfl⟩
  obtain ⟨n, hnn⟩ : ∃ n, l.length = n := ⟨_, rfl⟩
  have HTN := Lib.hid htn
  have HN := Lib.hid hnn
  have HF := Lib.hid hf
  have HT := Lib.hid hst
  have HFT := Lib.hid hfT
  have HI := Lib.hid hn
  have M0 : RtA w (.slice A1 T.length c1) T (.slice A2 l.length c2) l now 0 (.slice none 0 0) [] w := ⟨by omega, by simp [refTake], by simp, World.ownsRow_nil _ _ _ _, HST.out, HSL.out, Below.refl _ _⟩
  rw [htn, hnn] at M0 ⊢
  rw [htn] at HST t1 hlT
  rw [hnn] at HSL l1 hl
  have M := Lib.hid M0
  clear htn hnn hf hst hfT hn M0
  go_enter Try.func24, Try.ntmps24
  go_wp2_with fail
  go_loopw [7, 8] (fun o i wr => ∃ (k : Nat) (acc : List Sp), i = .int .i64 k ∧ Hid (RtA w (.slice A1 tn c1) T (.slice A2 n c2) l now k o acc wr)) (fun _ i _ => n - (intOf i).toNat)
  case atStart => exact ⟨0, [], rfl, M⟩
  case round =>
    obtain ⟨k, acc, rfl, M⟩ := hrel
    have hkn : k ≤ n := by have := M.out.le; rw [HN.out] at this; exact this
    by_cases hlt : k < n
    · have hkl : k < l.length := by rw [HN.out]; exact hlt
      obtain ⟨b2, o2, rfl, hrow⟩ := sl_at M.out.sl (by omega)
      obtain ⟨Ao, co, rfl, hoc, hom, -⟩ := slS_own M.out.own
      obtain ⟨x0, x1, x2, x3, x4, x5, x6, x7⟩ := hrow.cells hkl
      have hal := M.out.len
      unfold maxLen at hom
      have ck := fun W => refCheck_any (l.getD k Sp.zero) W (getS_lt HF.out hkl)
      have ce := fun W => refExpired_any (l.getD k Sp.zero) now W (getS_lt HT.out hkl) HI.out
      have HKL := Lib.hid hkl
      have HSK := Lib.hid (fun (wq : World) (h : RtA w (.slice A1 tn c1) T (.slice (some ⟨b2, o2, none⟩) n c2) l now k (.slice Ao acc.length co) acc wq) => h.skip hkl)
      clear hrow hkl
      obtain ⟨x, hx⟩ : ∃ x, l.getD k Sp.zero = x := ⟨_, rfl⟩
      have HX := Lib.hid hx
      rw [hx] at x0 x1 x2 x3 x4 x5 x6 x7 ck ce HSK
      clear hx
      unfold spVal at ck ce
      have CK := Lib.hid ck
      have CE := Lib.hid ce
      clear ck ce
      obtain ⟨tk, htk⟩ : ∃ tk, takes now x = tk := ⟨_, rfl⟩
      have HTK := Lib.hid htk
      clear htk
      obtain ⟨an, han⟩ : ∃ an, acc.length = an := ⟨_, rfl⟩
      have HAN := Lib.hid han
      rw [han] at M HSK hoc hal ⊢
      clear han
      go_upto_region 5 with fail
      go_cut [9] (fun v wx => v = .bool tk ∧ Hid (RtA w (.slice A1 tn c1) T (.slice (some ⟨b2, o2, none⟩) n c2) l now k (.slice Ao an co) acc wx))
      case first =>
        cases hxo : x.ok with
        | false =>
          obtain rfl : tk = false := by rw [← HTK.out]; unfold takes; rw [hxo]; rfl
          have c := CK.out
          rw [checkV_no hxo] at c
          have C := Lib.hid c
          clear c hxo CK CE
          go_wp2_with fail
          refine (C.out _).mono ?_
          rintro e w1 ⟨rfl, b1⟩
          have M := Lib.hid (M.out.later b1)
          clear b1
          go_wp2_with fail
          go_meet
          exact ⟨rfl, M⟩
        | true =>
          have c := CK.out
          rw [checkV_ok hxo] at c
          have C := Lib.hid c
          obtain ⟨L, hL⟩ : ∃ L, lateB x.st now = L := ⟨_, rfl⟩
          rw [hL] at CE
          obtain rfl : tk = !L := by rw [← HTK.out]; unfold takes; rw [hxo, hL]; rfl
          clear c hxo CK hL
          go_wp2_with fail
          refine (C.out _).mono ?_
          rintro e w1 ⟨rfl, b1⟩
          have M := Lib.hid (M.out.later b1)
          have hrow := sl_at2 M.out.sl (by have := HKL.out; omega)
          clear b1 x0 x1 x2 x3 x4 x5 x6 x7
          obtain ⟨x0, x1, x2, x3, x4, x5, x6, x7⟩ := hrow.cells HKL.out
          rw [HX.out] at x0 x1 x2 x3 x4 x5 x6 x7
          clear hrow
          go_wp2_with fail
          refine (CE.out _).mono ?_
          rintro e w2 ⟨rfl, b2'⟩
          have M := Lib.hid (M.out.later b2')
          clear b2'
          cases L <;> (go_wp2_with fail; go_meet; exact ⟨rfl, M⟩)
      case rest =>
        obtain ⟨rfl, M⟩ := hcut
        clear x0 x1 x2 x3 x4 x5 x6 x7 CK CE
        go_wp2_with fail
        go_loopw [9, 10] (fun v j wr => ∃ (jn : Nat) (q : Bool), v = .bool q ∧ j = .int .i64 jn ∧ jn ≤ tn ∧ Hid (q = (tk && !((T.take jn).any (blockS now x)))) ∧ Hid (RtA w (.slice A1 tn c1) T (.slice (some ⟨b2, o2, none⟩) n c2) l now k (.slice Ao an co) acc wr)) (fun _ j _ => tn - (intOf j).toNat)
        case atStart => exact ⟨0, tk, rfl, rfl, by omega, Lib.hid (by simp), M⟩
        case round =>
          obtain ⟨jn, q, rfl, rfl, hjn, HQ, M⟩ := hrel
          by_cases hjt : jn < tn
          · have hjl : jn < T.length := by rw [HTN.out]; exact hjt
            obtain ⟨bT, oT, rfl, hrT⟩ := sl_at M.out.sT (by omega)
            obtain ⟨y0, y1, y2, y3, y4, y5, y6, y7⟩ := hrT.cells hjl
            have hrow := sl_at2 M.out.sl (by have := HKL.out; omega)
            obtain ⟨x0, x1, x2, x3, x4, x5, x6, x7⟩ := hrow.cells HKL.out
            rw [HX.out] at x0 x1 x2 x3 x4 x5 x6 x7
            have hb1 := hrT.1
            have hb2 := hrow.1
            have ce := fun W => refExpired_any (T.getD jn Sp.zero) now W (getS_lt HFT.out hjl) HI.out
            have hst := anyB_take (blockS now x) T jn hjl
            clear hrT hrow hjl x2 x3 x4 x5 x6 x7
            obtain ⟨y, hy⟩ : ∃ y, T.getD jn Sp.zero = y := ⟨_, rfl⟩
            rw [hy] at y0 y1 y2 y3 y4 y5 y6 y7 ce hst
            clear hy
            unfold spVal at ce
            have CE := Lib.hid ce
            have HS := Lib.hid hst
            clear ce hst
            go_upto_region 9 with fail
            skip
            by_cases g1 : y.tr = x.tr
            · have e1 : (y.tr == x.tr) = true := beq_iff_eq.2 g1
              by_cases g2 : y.id = x.id
              · have e2 : (y.id == x.id) = true := beq_iff_eq.2 g2
                cases hly : lateB y.st now with
                | true =>
                  have HP : Hid (blockS now x y = false) := Lib.hid (by unfold blockS sameIds; rw [decide_eq_true g1, decide_eq_true g2, hly]; rfl)
                  rw [hly] at CE
                  clear hly g1 g2
                  refine wp_region_more (by kernel_rfl) (by kernel_rfl) ?_
                  repeat (go_big_quiet_step (fail))
                  go_big_quiet_step (exact Calls.more (CE.out _))
                  repeat (go_big_quiet_step (fail))
                  refine wpQuiet_nil ?_
                  rintro _ ⟨ex, rfl⟩
                  have BB := World.below_more wr ex
                  have M := Lib.hid (M.out.later BB)
                  clear BB
                  go_wp2_with fail
                  go_roundw
                  case rel => exact ⟨jn + 1, q, rfl, by go_num, by omega, Lib.hid (by rw [HS.out, HP.out, Bool.or_false]; exact HQ.out), M⟩
                  case measure => simp [intOf]; omega
                | false =>
                  have HP : Hid (blockS now x y = true) := Lib.hid (by unfold blockS sameIds; rw [decide_eq_true g1, decide_eq_true g2, hly]; rfl)
                  rw [hly] at CE
                  clear hly g1 g2
                  refine wp_region_more (by kernel_rfl) (by kernel_rfl) ?_
                  repeat (go_big_quiet_step (fail))
                  go_big_quiet_step (exact Calls.more (CE.out _))
                  repeat (go_big_quiet_step (fail))
                  refine wpQuiet_nil ?_
                  rintro _ ⟨ex, rfl⟩
                  have BB := World.below_more wr ex
                  have M := Lib.hid (M.out.later BB)
                  clear BB
                  go_wp2_with fail
                  go_roundw
                  case rel => exact ⟨jn + 1, false, rfl, by go_num, by omega, Lib.hid (by rw [HS.out, HP.out, Bool.or_true]; simp), M⟩
                  case measure => simp [intOf]; omega
              · have e2 : (y.id == x.id) = false := beq_eq_false_iff_ne.2 g2
                have HP : Hid (blockS now x y = false) := Lib.hid (by unfold blockS sameIds; rw [decide_eq_false g2]; simp)
                clear g1 g2
                refine wp_region_more (by kernel_rfl) (by kernel_rfl) ?_
                repeat (go_big_quiet_step (fail))
                refine wpQuiet_nil ?_
                rintro _ ⟨ex, rfl⟩
                have BB := World.below_more wr ex
                have M := Lib.hid (M.out.later BB)
                clear BB
                go_wp2_with fail
                go_roundw
                case rel => exact ⟨jn + 1, q, rfl, by go_num, by omega, Lib.hid (by rw [HS.out, HP.out, Bool.or_false]; exact HQ.out), M⟩
                case measure => simp [intOf]; omega
            · have e1 : (y.tr == x.tr) = false := beq_eq_false_iff_ne.2 g1
              have HP : Hid (blockS now x y = false) := Lib.hid (by unfold blockS sameIds; rw [decide_eq_false g1]; simp)
              clear g1
              refine wp_region_more (by kernel_rfl) (by kernel_rfl) ?_
              repeat (go_big_quiet_step (fail))
              refine wpQuiet_nil ?_
              rintro _ ⟨ex, rfl⟩
              have BB := World.below_more wr ex
              have M := Lib.hid (M.out.later BB)
              clear BB
              go_wp2_with fail
              go_roundw
              case rel => exact ⟨jn + 1, q, rfl, by go_num, by omega, Lib.hid (by rw [HS.out, HP.out, Bool.or_false]; exact HQ.out), M⟩
              case measure => simp [intOf]; omega
          · obtain rfl : jn = tn := by omega
            have hq : q = (takes now x && !(T.any (blockS now x))) := by
              have h := HQ.out
              rw [List.take_of_length_le (by rw [HTN.out]; exact Nat.le_refl _)] at h
              rw [h, HTK.out]
            have HQ2 := Lib.hid hq
            clear hq HQ
            go_wp2_with fail
            go_loopw [9, 11] (fun v j wr => ∃ (jm : Nat) (q2 : Bool), v = .bool q2 ∧ j = .int .i64 jm ∧ jm ≤ an ∧ Hid (q2 = (q && !((acc.take jm).any fun y => sameIds y x))) ∧ Hid (RtA w (.slice A1 jn c1) T (.slice (some ⟨b2, o2, none⟩) n c2) l now k (.slice Ao an co) acc wr)) (fun _ j _ => an - (intOf j).toNat)
            case atStart => exact ⟨0, q, rfl, rfl, by omega, Lib.hid (by simp), M⟩
            case round =>
              obtain ⟨jm, q2, rfl, rfl, hjm, HQ, M⟩ := hrel
              by_cases hjt : jm < an
              · have hjl : jm < acc.length := by rw [HAN.out]; exact hjt
                have hso := slS_own M.out.own
                obtain ⟨bO, oO, rfl, hrT⟩ := sl_at hso (by omega)
                obtain ⟨y0, y1, y2, y3, y4, y5, y6, y7⟩ := hrT.cells hjl
                have hrow := sl_at2 M.out.sl (by have := HKL.out; omega)
                obtain ⟨x0, x1, x2, x3, x4, x5, x6, x7⟩ := hrow.cells HKL.out
                rw [HX.out] at x0 x1 x2 x3 x4 x5 x6 x7
                have hb1 := hrT.1
                have hb2 := hrow.1
                have hst := anyB_take (fun y => sameIds y x) acc jm hjl
                clear hrT hrow hjl x2 x3 x4 x5 x6 x7 hso
                obtain ⟨y, hy⟩ : ∃ y, acc.getD jm Sp.zero = y := ⟨_, rfl⟩
                rw [hy] at y0 y1 y2 y3 y4 y5 y6 y7 hst
                clear hy y2 y3 y4 y5 y6 y7
                have HS := Lib.hid hst
                clear hst
                go_upto_region 14 with fail
                by_cases g1 : y.tr = x.tr
                · have e1 : (y.tr == x.tr) = true := beq_iff_eq.2 g1
                  by_cases g2 : y.id = x.id
                  · have e2 : (y.id == x.id) = true := beq_iff_eq.2 g2
                    have HP : Hid (sameIds y x = true) := Lib.hid (by unfold sameIds; rw [decide_eq_true g1, decide_eq_true g2]; rfl)
                    clear g1 g2
                    refine wp_region_more (by kernel_rfl) (by kernel_rfl) ?_
                    repeat (go_big_quiet_step (fail))
                    refine wpQuiet_nil ?_
                    rintro _ ⟨ex, rfl⟩
                    have BB := World.below_more wr ex
                    have M := Lib.hid (M.out.later BB)
                    clear BB
                    go_wp2_with fail
                    go_roundw
                    case rel => exact ⟨jm + 1, false, rfl, by go_num, by omega, Lib.hid (by rw [HS.out, HP.out, Bool.or_true]; simp), M⟩
                    case measure => simp [intOf]; omega
                  · have e2 : (y.id == x.id) = false := beq_eq_false_iff_ne.2 g2
                    have HP : Hid (sameIds y x = false) := Lib.hid (by unfold sameIds; rw [decide_eq_false g2]; simp)
                    clear g1 g2
                    refine wp_region_more (by kernel_rfl) (by kernel_rfl) ?_
                    repeat (go_big_quiet_step (fail))
                    refine wpQuiet_nil ?_
                    rintro _ ⟨ex, rfl⟩
                    have BB := World.below_more wr ex
                    have M := Lib.hid (M.out.later BB)
                    clear BB
                    go_wp2_with fail
                    go_roundw
                    case rel => exact ⟨jm + 1, q2, rfl, by go_num, by omega, Lib.hid (by rw [HS.out, HP.out, Bool.or_false]; exact HQ.out), M⟩
                    case measure => simp [intOf]; omega
                · have e1 : (y.tr == x.tr) = false := beq_eq_false_iff_ne.2 g1
                  have HP : Hid (sameIds y x = false) := Lib.hid (by unfold sameIds; rw [decide_eq_false g1]; simp)
                  clear g1
                  refine wp_region_more (by kernel_rfl) (by kernel_rfl) ?_
                  repeat (go_big_quiet_step (fail))
                  refine wpQuiet_nil ?_
                  rintro _ ⟨ex, rfl⟩
                  have BB := World.below_more wr ex
                  have M := Lib.hid (M.out.later BB)
                  clear BB
                  go_wp2_with fail
                  go_roundw
                  case rel => exact ⟨jm + 1, q2, rfl, by go_num, by omega, Lib.hid (by rw [HS.out, HP.out, Bool.or_false]; exact HQ.out), M⟩
                  case measure => simp [intOf]; omega
              · obtain rfl : jm = an := by omega
                have hq : q2 = refTook T now acc x := by
                  have h := HQ.out
                  rw [List.take_of_length_le (by rw [HAN.out]; exact Nat.le_refl _)] at h
                  rw [h, HQ2.out, took_eq]
                have HQ3 := Lib.hid hq
                clear hq HQ
                cases q2 with
                | false =>
                  have SK := Lib.hid (HSK.out _ M.out HQ3.out.symm)
                  go_wp2_with fail
                  go_roundw
                  case rel => exact ⟨k + 1, acc, by go_num, SK⟩
                  case measure => simp [intOf]; omega
                | true =>
                  have hrow := sl_at2 M.out.sl (by have := HKL.out; omega)
                  obtain ⟨x0, x1, x2, x3, x4, x5, x6, x7⟩ := hrow.cells HKL.out
                  rw [HX.out] at x0 x1 x2 x3 x4 x5 x6 x7
                  clear hrow
                  have M2 := Lib.hid (M.out.later (spBox x wr))
                  have own := M2.out.own
                  rw [HAN.out] at own
                  have hbs := M2.out.bel.size
                  go_wp2_with (at_builtin; refine wpList_append_lies _ rfl _ _ 27 rfl w.heap.size 23 i0 (.agg #[.int .i64 0, .int .i64 0, .int .i64 0, .string ⟨#[]⟩, .string ⟨#[]⟩, .int .i64 0, .int .i64 0, .string ⟨#[]⟩]) 8 88 Try.underlying27 hi hz0 hz1 hz2 rfl (by decide) _ jm (rowS acc) rfl own ⟨wr.heap.size, 0, none⟩ 1 1 (spRow x) rfl rfl (World.news_of_block (SpAt.boxed x wr)) (spRow_one x) (by decide) (by unfold maxLen; omega) (by omega) hbs _ rfl ?_)
                  intro g gc w3 own3 gr3 alt3 lt3
                  have MM := Lib.hid (M2.out.more HKL.out HX.out HQ3.out.symm HST.out HSL.out (by rw [HAN.out]; exact own3) gr3)
                  clear own3 gr3 alt3 lt3 own x0 x1 x2 x3 x4 x5 x6 x7
                  go_wp2_with fail
                  go_roundw
                  case rel => exact ⟨k + 1, acc ++ [x], by go_num, MM⟩
                  case measure => simp [intOf]; omega
    · obtain rfl : k = n := by omega
      have hacc : acc = refTake T now [] l := by
        have := M.out.acc'
        rw [List.take_of_length_le (by rw [HN.out]; exact Nat.le_refl _)] at this
        exact this
      have HA := Lib.hid hacc
      clear hacc
      go_wp2_with fail
      refine bodyPost_ret (v := u7) (by simp [results, Try.results24, go_sem]) rfl ⟨M.out.bel, u7, rfl, ?_⟩
      rw [← HA.out]
      exact M.out.own
end Go.Proofs.Ytfkjdjdgcegniaa
