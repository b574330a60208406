/- The walks of Decode: all cells, one by one. The walks of Decode and Find. The walks of the document's Decode and Find. The walks of the document's Find, and of what the statements ask: whether lists are the same, how great they are, the chapter's cells. The walks of what the statements lay: a list's twin, the chapter's cells, its examples. The walks: a twin is left; the chapter's examples. -/
import Derived.Test.YtoglloafpnopaaaGreatTD
import Derived.Deep.Onto
import Derived.Deep.RegionWith
import Derived.Deep.RegionHeld3
set_option linter.unusedSimpArgs false
set_option linter.unusedVariables false
namespace Go.Proofs.YtoglloafpnopaaaGreat
set_option maxRecDepth 16000
open Go.RowKit Spoor
def EachEx (L : Nat) (s : List UInt8) (w w' : World) : Prop := Below L w w' ∧ ∀ l, decB s = some l → ∃ v, VarAt L v w' ∧ w'.ownsRow (L + 1) 38 3 v l.length (rowOf l)
def lastCe (p : Option Ce) : Ce := p.getD Ce.zero
theorem lastCe_key (p : Option Ce) : (lastCe p).k = lastKey p := by cases p <;> rfl
theorem eachB_step {s : List UInt8} {m at' : Nat} {p : Option Ce} {c : Ce} {nx : Nat} (h : cellAt true s at' (lastKey p) = some (c, nx)) (hok : okAfter p c = true) (acc : List Ce) :
 finB s acc (eachB s (m + 1) at' p) = finB s (acc ++ [c]) (eachB s m nx (some c)) := by
 simp only [eachB, h]
 rw [if_pos hok]
 cases eachB s m nx (some c) with
 | none => rfl
 | some r => obtain ⟨l, a⟩ := r; simp [finB]
theorem eachB_no {s : List UInt8} {m at' : Nat} {p : Option Ce} (acc : List Ce) (h : cellAt true s at' (lastKey p) = none ∨ ∃ c nx, cellAt true s at' (lastKey p) = some (c, nx) ∧ okAfter p c = false) :
 finB s acc (eachB s (m + 1) at' p) = none := by
 rcases h with h | ⟨c, nx, h, hok⟩
 · simp only [eachB, h]; rfl
 · simp only [eachB, h]; rw [if_neg (by rw [hok]; simp)]; rfl
structure EachAt (L P : Nat) (s : List UInt8) (many : Nat) (w : World) (k at' : Nat) (p : Option Ce) (v : Value) (acc : List Ce) (wr : World) : Prop where
 le : k ≤ many
 atLe : at' ≤ s.length
 kLe : k ≤ at'
 len : acc.length = k
 prev : p = none ↔ k = 0
 key : (lastKey p).length ≤ 64
 var : VarAt L v wr
 own : wr.ownsRow (P + 1) 38 3 v acc.length (rowOf acc)
 last : CeAt P (lastCe p) wr
 below : Below L w wr
 dec : decB s = finB s acc (eachB s (many - k) at' p)
theorem EachAt.later {L P : Nat} {s : List UInt8} {many : Nat} {w : World} {k at' : Nat} {p : Option Ce} {v : Value} {acc : List Ce} {wr w' : World} (h : EachAt L P s many w k at' p v acc wr) (hb : Below wr.heap.size wr w') (hL : L < wr.heap.size) : EachAt L P s many w k at' p v acc w' := by
 obtain ⟨h1, h2, h3, h4, h5, h6, h7, h8, h9, h10, h11⟩ := h
 refine ⟨h1, h2, h3, h4, h5, h6, ?_, h8.kept (row := none) ⟨hb.os, hb.tape, hb.output, hb.size, fun k hk _ => hb.block k hk⟩ (by cases h : v.ownBlock <;> simp), h9.later hb h9.lt, h10.trans (hb.mono (by omega)), h11⟩
 unfold VarAt
 rw [hb.block L hL]
 exact h7
set_option maxRecDepth 100000 in
set_option maxHeartbeats 16000000 in
theorem each_any (s : List UInt8) (L : Nat) (w : World) (hs : s.length ≤ 1000000000) (hv : VarAt L (.slice none 0 0) w) :
 Calls Tryz.prog 73 #[.string ⟨s.toArray⟩, .func (.func 74) #[] #[.pointer (some ⟨L, 0, none⟩)]] w fun e w' => e = .returned (.bool (decB s).isSome) ∧ EachEx L s w w' := by
 have hLs : L < w.heap.size := lt_of_block hv
 have cg := fun W => getN_any s 0 W (by omega)
 rw [List.drop_zero] at cg
 simp only [Int.natCast_zero] at cg
 have CG := Lib.hid cg
 clear cg
 cases e1 : get s with
 | none =>
   have hd : decB s = none := by unfold decB; rw [e1]
   rw [e1] at CG
   unfold getV at CG
   have HD := Lib.hid hd
   rw [hd]
   clear e1 hd
   go_enter Tryz.func73, Tryz.ntmps73
   go_wp2_with fail
   refine (CG.out _).mono ?_
   rintro e w1 ⟨rfl, rfl⟩
   go_wp2_with fail
   go_ret
   exact ⟨rfl, Below.refl _ _, fun l h => by rw [HD.out] at h; cases h⟩
 | some r1 =>
   obtain ⟨many, k1⟩ := r1
   obtain ⟨g0, _, gk, gn, _⟩ := get_some e1
   have hd : decB s = finB s [] (eachB s many k1 none) := by unfold decB; rw [e1]
   rw [e1] at CG
   unfold getV at CG
   have HD := Lib.hid hd
   have q0 := CeAt.boxed Ce.zero w
   have b0 := (Below.refl w.heap.size w).alloc (Nat.le_refl _) (boxC Ce.zero)
   have hv0 : VarAt L (.slice none 0 0) (w.alloc (boxC Ce.zero)) := (Below.heap_alloc w _ L hLs).trans hv
   have E0 : EachAt L w.heap.size s many w 0 k1 none (.slice none 0 0) [] (w.alloc (boxC Ce.zero)) :=
    ⟨by omega, gk, by omega, rfl, by simp, by simp [lastKey], hv0, World.ownsRow_nil _ _ _ _, q0, b0.mono (by omega), hd⟩
   obtain ⟨D, hD⟩ : ∃ D, decB s = D := ⟨_, rfl⟩
   have HDD := Lib.hid hD
   rw [hD]
   have HP : Hid (w.heap.size < (w.alloc (boxC Ce.zero)).heap.size) := Lib.hid q0.lt
   clear e1 hd hD q0 b0 hv0
   unfold boxC Ce.zero at E0 HP
   try dsimp only at E0 HP
   go_enter Tryz.func73, Tryz.ntmps73
   go_wp2_with fail
   refine (CG.out _).mono ?_
   rintro e w1 ⟨rfl, rfl⟩
   go_wp2_with fail
   generalize w.alloc _ = w1 at *
   go_loopw [6, 22] (fun a i wr => ∃ (k at' : Nat) (p : Option Ce) (v : Value) (acc : List Ce), a = .int .i64 at' ∧ i = .int .i64 k ∧ EachAt L w.heap.size s many w k at' p v acc wr ∧ w.heap.size < wr.heap.size) (fun _ i _ => many - (intOf i).toNat)
   case atStart => exact ⟨0, k1, none, _, [], by simp, rfl, E0, HP.out⟩
   case round =>
    clear E0 HP
    obtain ⟨k, at', p, v, acc, rfl, rfl, E, hP⟩ := hrel
    by_cases hlt : k < many
    · have hd := E.dec
      obtain ⟨j, hj⟩ : ∃ j, many - k = j + 1 := ⟨many - k - 1, by omega⟩
      rw [hj] at hd
      have HJ := Lib.hid hj
      clear hj
      have cl := fun W => cell_any s at' (lastKey p) W (by omega) (by have := E.key; omega)
      unfold cellV at cl
      obtain ⟨y0, y1, y2⟩ := E.last.cell
      rw [lastCe_key] at y0
      have HV : Hid (∀ g, v.ownBlock = some g → g < wr.heap.size) := Lib.hid (fun g e => (E.own.lt g e).2)
      cases hc : cellAt true s at' (lastKey p) with
      | none =>
        have hn : D = none := by rw [← HDD.out, hd]; exact eachB_no acc (.inl hc)
        have HN := Lib.hid hn
        rw [hc] at cl
        simp only at cl
        generalize junkC s at' (lastKey p) = c at *
        unfold ceVal at cl
        have CL := Lib.hid cl
        clear cl hn hc hd
        go_wp2_with fail
        refine (CL.out _).mono ?_
        rintro e w2 ⟨rfl, b2⟩
        have E2 := E.later b2 (by omega)
        have hP2 : w.heap.size < w2.heap.size := Nat.lt_of_lt_of_le hP b2.size
        have HLE : Hid (wr.heap.size ≤ w2.heap.size) := Lib.hid b2.size
        have q1 := CeAt.boxed c w2
        have b3 := (Below.refl w2.heap.size w2).alloc (Nat.le_refl _) (boxC c)
        have E3 := E2.later b3 (by omega)
        have HS : Hid ((w2.alloc (boxC c)).heap.size = w2.heap.size + 1) := Lib.hid (by simp)
        unfold boxC at q1 b3 E3 HS
        clear E E2 y0 y1 y2 b2
        obtain ⟨x0, x1, x2⟩ := q1.cell
        obtain ⟨y0, y1, y2⟩ := E3.last.cell
        go_wp2_with fail
        have HB := E3.below
        go_ret
        exact ⟨ret1 (by rw [HN.out]; rfl), HB, fun l h => by rw [HDD.out, HN.out] at h; cases h⟩
      | some r =>
        obtain ⟨c, nx⟩ := r
        have HC := Lib.hid hc
        have HD2 := Lib.hid hd
        obtain ⟨n1, n2, _, _, n3, n4, n5, n6⟩ := cellAt_some hc
        have hfc : FitsC c := ⟨by have := E.key; omega, by omega, n6⟩
        rw [hc] at cl
        simp only at cl
        have cm := fun W => may_any c W hfc
        unfold ceVal at cl cm
        have CL := Lib.hid cl
        clear cl hfc hd hc n3 n4 n5 n6
        cases hm : c.may with
        | false =>
          have hok : okAfter p c = false := by cases p <;> simp [okAfter, hm]
          have hn : D = none := by rw [← HDD.out, HD2.out]; exact eachB_no acc (.inr ⟨c, nx, HC.out, hok⟩)
          have HN := Lib.hid hn
          rw [hm] at cm
          have CM := Lib.hid cm
          clear cm hn hok hm
          go_wp2_with fail
          refine (CL.out _).mono ?_
          rintro e w2 ⟨rfl, b2⟩
          have E2 := E.later b2 (by omega)
          have hP2 : w.heap.size < w2.heap.size := Nat.lt_of_lt_of_le hP b2.size
          have HLE : Hid (wr.heap.size ≤ w2.heap.size) := Lib.hid b2.size
          have q1 := CeAt.boxed c w2
          have b3 := (Below.refl w2.heap.size w2).alloc (Nat.le_refl _) (boxC c)
          have E3 := E2.later b3 (by omega)
          have HS : Hid ((w2.alloc (boxC c)).heap.size = w2.heap.size + 1) := Lib.hid (by simp)
          unfold boxC at q1 b3 E3 HS
          clear E E2 y0 y1 y2 b2
          obtain ⟨x0, x1, x2⟩ := q1.cell
          obtain ⟨y0, y1, y2⟩ := E3.last.cell
          go_wp2_with fail
          generalize w2.alloc _ = w3 at *
          generalize hq : w2.heap.size = q at *
          have HQ := Lib.hid hq
          clear hq
          refine (CM.out _).mono ?_
          rintro e w4 ⟨rfl, b4⟩
          have E4 := E3.later b4 (by have := HS.out; omega)
          have q2 := q1.later b4 q1.lt
          have HSZ : Hid (q < w4.heap.size) := Lib.hid (Nat.lt_of_lt_of_le q1.lt b4.size)
          clear x0 x1 x2 y0 y1 y2 E3 q1 b3
          obtain ⟨x0, x1, x2⟩ := q2.cell
          obtain ⟨y0, y1, y2⟩ := E4.last.cell
          go_wp2_with fail
          have HB := E4.below
          go_ret
          exact ⟨ret1 (by rw [HN.out]; rfl), HB, fun l h => by rw [HDD.out, HN.out] at h; cases h⟩
        | true =>
          obtain ⟨_, m2, _, _⟩ := may_of hm
          rw [hm] at cm
          have CM := Lib.hid cm
          clear cm
          cases p with
          | none =>
            obtain rfl : k = 0 := E.prev.1 rfl
            have HOK : Hid (okAfter none c = true) := Lib.hid (by simpa [okAfter] using hm)
            clear hm
            go_wp2_with fail
            refine (CL.out _).mono ?_
            rintro e w2 ⟨rfl, b2⟩
            have E2 := E.later b2 (by omega)
            have hP2 : w.heap.size < w2.heap.size := Nat.lt_of_lt_of_le hP b2.size
            have HLE : Hid (wr.heap.size ≤ w2.heap.size) := Lib.hid b2.size
            have q1 := CeAt.boxed c w2
            have b3 := (Below.refl w2.heap.size w2).alloc (Nat.le_refl _) (boxC c)
            have E3 := E2.later b3 (by omega)
            have HS : Hid ((w2.alloc (boxC c)).heap.size = w2.heap.size + 1) := Lib.hid (by simp)
            unfold boxC at q1 b3 E3 HS
            clear E E2 y0 y1 y2 b2
            obtain ⟨x0, x1, x2⟩ := q1.cell
            obtain ⟨y0, y1, y2⟩ := E3.last.cell
            go_wp2_with fail
            generalize w2.alloc _ = w3 at *
            generalize hq : w2.heap.size = q at *
            have HQ := Lib.hid hq
            clear hq
            refine (CM.out _).mono ?_
            rintro e w4 ⟨rfl, b4⟩
            have E4 := E3.later b4 (by have := HS.out; omega)
            have q2 := q1.later b4 q1.lt
            have HSZ : Hid (q < w4.heap.size) := Lib.hid (Nat.lt_of_lt_of_le q1.lt b4.size)
            clear x0 x1 x2 y0 y1 y2 E3 q1 b3
            obtain ⟨x0, x1, x2⟩ := q2.cell
            obtain ⟨y0, y1, y2⟩ := E4.last.cell
            go_wp2_with fail
            have hsz := HSZ.out
            have hqP : w.heap.size < q := by have := HQ.out; omega
            have hown := E4.own
            have hbd : (acc.length + 1) * 40 ≤ 140737488355328 := by have h1 := E4.len; have h2 := E4.kLe; have h3 := E4.atLe; omega
            have tc := told_any c L (w.heap.size + 1) v acc _ E4.var hown (by omega) (by omega) hbd
            unfold ceVal at tc
            refine tc.mono ?_
            rintro e w6 ⟨rfl, v6, T⟩
            have hnq : v.ownBlock ≠ some q := by
             intro e
             have h1 := E4.own.lt q e
             have h2 := HV.out q e
             have h3 := HLE.out
             omega
            have hnP : v.ownBlock ≠ some w.heap.size := by
             intro e
             have h1 := (E4.own.lt _ e).1
             omega
            have q3 : CeAt q c w6 := by unfold CeAt; rw [T.kept q hsz (by omega) hnq]; exact q2
            have l3 : CeAt w.heap.size (lastCe none) w6 := by unfold CeAt; rw [T.kept _ (by omega) (by omega) hnP]; exact E4.last
            clear x0 x1 x2 y0 y1 y2 tc hbd hown hnq hnP
            obtain ⟨x0, x1, x2⟩ := q3.cell
            obtain ⟨y0, y1, y2⟩ := l3.cell
            obtain ⟨z0, z1, z2⟩ := l3.frees
            obtain ⟨l4, _⟩ := l3.all (Below.refl 0 w6) (Nat.zero_le _) c
            have T1 := T.var
            have T2 := T.own
            have T3 := T.below
            have hn6 : v6.ownBlock ≠ some w.heap.size := by
             intro e
             have h1 := (T2.lt _ e).1
             omega
            have F : EachAt L w.heap.size s many w (0 + 1) nx (some c) v6 (acc ++ [c]) (((w6.setCell ⟨w.heap.size, 0, none⟩ (.string ⟨c.k.toArray⟩)).setCell ⟨w.heap.size, 1, none⟩ (.int .i64 c.q)).setCell ⟨w.heap.size, 2, none⟩ (.string ⟨c.v.toArray⟩)) := by
             refine ⟨by omega, n1, by have := E4.kLe; omega, by rw [List.length_append, E4.len]; rfl, by simp, m2, ?_, ?_, l4, ?_, ?_⟩
             · unfold VarAt
               rw [Below.heap_setCell _ _ _ _ (by simp; omega), Below.heap_setCell _ _ _ _ (by simp; omega), Below.heap_setCell _ _ _ _ (by simp; omega)]
               exact T1
             · exact ownsRow_setCell_other (ownsRow_setCell_other (ownsRow_setCell_other T2 (a := ⟨w.heap.size, 0, none⟩) hn6 _) (a := ⟨w.heap.size, 1, none⟩) hn6 _) (a := ⟨w.heap.size, 2, none⟩) hn6 _
             · exact below_set (below_set (below_set (E4.below.trans T3) (by omega) 0 _) (by omega) 1 _) (by omega) 2 _
             · have : many - (0 + 1) = j := by have := HJ.out; omega
               rw [this, ← eachB_step HC.out HOK.out acc]
               exact HD2.out
            have hsz6 : w.heap.size < (((w6.setCell ⟨w.heap.size, 0, none⟩ (.string ⟨c.k.toArray⟩)).setCell ⟨w.heap.size, 1, none⟩ (.int .i64 c.q)).setCell ⟨w.heap.size, 2, none⟩ (.string ⟨c.v.toArray⟩)).heap.size := Nat.lt_of_lt_of_le l4.lt (Nat.le_refl _)
            clear T T1 T2 T3 E4 q2 l3 l4 hsz hqP hn6
            go_wp2_with fail
            go_roundw
            case rel => exact ⟨0 + 1, nx, some c, v6, acc ++ [c], rfl, by go_num, F, hsz6⟩
            case measure => simp [intOf]; omega
          | some a =>
            have hk0 : 0 < k := by
             rcases Nat.eq_zero_or_pos k with h | h
             · exact absurd (E.prev.2 h) (by simp)
             · exact h
            have cc := fun W => compare_any a c W
            have hr := cmpCe_less a c
            generalize cmpCe a c = r at *
            unfold ceVal at cc
            have CC := Lib.hid cc
            clear cc
            cases ha : aheadC a c with
            | false =>
              have hn : D = none := by rw [← HDD.out, HD2.out]; exact eachB_no acc (.inr ⟨c, nx, HC.out, by simp [okAfter, hm, ha]⟩)
              have HN := Lib.hid hn
              rw [ha] at hr
              have hr1 : 0 ≤ r := by simpa using hr
              clear hn hr ha hm
              go_wp2_with fail
              refine (CL.out _).mono ?_
              rintro e w2 ⟨rfl, b2⟩
              have E2 := E.later b2 (by omega)
              have hP2 : w.heap.size < w2.heap.size := Nat.lt_of_lt_of_le hP b2.size
              have HLE : Hid (wr.heap.size ≤ w2.heap.size) := Lib.hid b2.size
              have q1 := CeAt.boxed c w2
              have b3 := (Below.refl w2.heap.size w2).alloc (Nat.le_refl _) (boxC c)
              have E3 := E2.later b3 (by omega)
              have HS : Hid ((w2.alloc (boxC c)).heap.size = w2.heap.size + 1) := Lib.hid (by simp)
              unfold boxC at q1 b3 E3 HS
              clear E E2 y0 y1 y2 b2
              obtain ⟨x0, x1, x2⟩ := q1.cell
              obtain ⟨y0, y1, y2⟩ := E3.last.cell
              go_wp2_with fail
              generalize w2.alloc _ = w3 at *
              generalize hq : w2.heap.size = q at *
              have HQ := Lib.hid hq
              clear hq
              refine (CM.out _).mono ?_
              rintro e w4 ⟨rfl, b4⟩
              have E4 := E3.later b4 (by have := HS.out; omega)
              have q2 := q1.later b4 q1.lt
              have HSZ : Hid (q < w4.heap.size) := Lib.hid (Nat.lt_of_lt_of_le q1.lt b4.size)
              clear x0 x1 x2 y0 y1 y2 E3 q1 b3
              obtain ⟨x0, x1, x2⟩ := q2.cell
              obtain ⟨y0, y1, y2⟩ := E4.last.cell
              go_wp2_with fail
              refine (CC.out _).mono ?_
              rintro e w5 ⟨rfl, b5⟩
              have E5 := E4.later b5 (by have := HSZ.out; omega)
              have q3 := q2.later b5 q2.lt
              have HSZ2 : Hid (q < w5.heap.size) := Lib.hid (Nat.lt_of_lt_of_le HSZ.out b5.size)
              clear x0 x1 x2 y0 y1 y2 E4 q2 b4 b5 HSZ
              have E4 := E5
              have q2 := q3
              have HSZ := HSZ2
              clear E5 q3 HSZ2
              obtain ⟨x0, x1, x2⟩ := q2.cell
              obtain ⟨y0, y1, y2⟩ := E4.last.cell
              go_wp2_with fail
              have HB := E4.below
              go_ret
              exact ⟨ret1 (by rw [HN.out]; rfl), HB, fun l h => by rw [HDD.out, HN.out] at h; cases h⟩
            | true =>
              have HOK : Hid (okAfter (some a) c = true) := Lib.hid (by simp [okAfter, hm, ha])
              rw [ha] at hr
              have hr1 : decide (0 ≤ r) = false := by simpa using hr
              clear hr ha hm
              go_wp2_with fail
              refine (CL.out _).mono ?_
              rintro e w2 ⟨rfl, b2⟩
              have E2 := E.later b2 (by omega)
              have hP2 : w.heap.size < w2.heap.size := Nat.lt_of_lt_of_le hP b2.size
              have HLE : Hid (wr.heap.size ≤ w2.heap.size) := Lib.hid b2.size
              have q1 := CeAt.boxed c w2
              have b3 := (Below.refl w2.heap.size w2).alloc (Nat.le_refl _) (boxC c)
              have E3 := E2.later b3 (by omega)
              have HS : Hid ((w2.alloc (boxC c)).heap.size = w2.heap.size + 1) := Lib.hid (by simp)
              unfold boxC at q1 b3 E3 HS
              clear E E2 y0 y1 y2 b2
              obtain ⟨x0, x1, x2⟩ := q1.cell
              obtain ⟨y0, y1, y2⟩ := E3.last.cell
              go_wp2_with fail
              generalize w2.alloc _ = w3 at *
              generalize hq : w2.heap.size = q at *
              have HQ := Lib.hid hq
              clear hq
              refine (CM.out _).mono ?_
              rintro e w4 ⟨rfl, b4⟩
              have E4 := E3.later b4 (by have := HS.out; omega)
              have q2 := q1.later b4 q1.lt
              have HSZ : Hid (q < w4.heap.size) := Lib.hid (Nat.lt_of_lt_of_le q1.lt b4.size)
              clear x0 x1 x2 y0 y1 y2 E3 q1 b3
              obtain ⟨x0, x1, x2⟩ := q2.cell
              obtain ⟨y0, y1, y2⟩ := E4.last.cell
              go_wp2_with fail
              refine (CC.out _).mono ?_
              rintro e w5 ⟨rfl, b5⟩
              have E5 := E4.later b5 (by have := HSZ.out; omega)
              have q3 := q2.later b5 q2.lt
              have HSZ2 : Hid (q < w5.heap.size) := Lib.hid (Nat.lt_of_lt_of_le HSZ.out b5.size)
              clear x0 x1 x2 y0 y1 y2 E4 q2 b4 b5 HSZ
              have E4 := E5
              have q2 := q3
              have HSZ := HSZ2
              clear E5 q3 HSZ2
              obtain ⟨x0, x1, x2⟩ := q2.cell
              obtain ⟨y0, y1, y2⟩ := E4.last.cell
              go_wp2_with fail
              have hsz := HSZ.out
              have hqP : w.heap.size < q := by have := HQ.out; omega
              have hown := E4.own
              have hbd : (acc.length + 1) * 40 ≤ 140737488355328 := by have h1 := E4.len; have h2 := E4.kLe; have h3 := E4.atLe; omega
              have tc := told_any c L (w.heap.size + 1) v acc _ E4.var hown (by omega) (by omega) hbd
              unfold ceVal at tc
              refine tc.mono ?_
              rintro e w6 ⟨rfl, v6, T⟩
              have hnq : v.ownBlock ≠ some q := by
               intro e
               have h1 := E4.own.lt q e
               have h2 := HV.out q e
               have h3 := HLE.out
               omega
              have hnP : v.ownBlock ≠ some w.heap.size := by
               intro e
               have h1 := (E4.own.lt _ e).1
               omega
              have q3 : CeAt q c w6 := by unfold CeAt; rw [T.kept q hsz (by omega) hnq]; exact q2
              have l3 : CeAt w.heap.size (lastCe (some a)) w6 := by unfold CeAt; rw [T.kept _ (by omega) (by omega) hnP]; exact E4.last
              clear x0 x1 x2 y0 y1 y2 tc hbd hown hnq hnP
              obtain ⟨x0, x1, x2⟩ := q3.cell
              obtain ⟨y0, y1, y2⟩ := l3.cell
              obtain ⟨z0, z1, z2⟩ := l3.frees
              obtain ⟨l4, _⟩ := l3.all (Below.refl 0 w6) (Nat.zero_le _) c
              have T1 := T.var
              have T2 := T.own
              have T3 := T.below
              have hn6 : v6.ownBlock ≠ some w.heap.size := by
               intro e
               have h1 := (T2.lt _ e).1
               omega
              have F : EachAt L w.heap.size s many w (k + 1) nx (some c) v6 (acc ++ [c]) (((w6.setCell ⟨w.heap.size, 0, none⟩ (.string ⟨c.k.toArray⟩)).setCell ⟨w.heap.size, 1, none⟩ (.int .i64 c.q)).setCell ⟨w.heap.size, 2, none⟩ (.string ⟨c.v.toArray⟩)) := by
               refine ⟨by omega, n1, by have := E4.kLe; omega, by rw [List.length_append, E4.len]; rfl, by simp, m2, ?_, ?_, l4, ?_, ?_⟩
               · unfold VarAt
                 rw [Below.heap_setCell _ _ _ _ (by simp; omega), Below.heap_setCell _ _ _ _ (by simp; omega), Below.heap_setCell _ _ _ _ (by simp; omega)]
                 exact T1
               · exact ownsRow_setCell_other (ownsRow_setCell_other (ownsRow_setCell_other T2 (a := ⟨w.heap.size, 0, none⟩) hn6 _) (a := ⟨w.heap.size, 1, none⟩) hn6 _) (a := ⟨w.heap.size, 2, none⟩) hn6 _
               · exact below_set (below_set (below_set (E4.below.trans T3) (by omega) 0 _) (by omega) 1 _) (by omega) 2 _
               · have : many - (k + 1) = j := by have := HJ.out; omega
                 rw [this, ← eachB_step HC.out HOK.out acc]
                 exact HD2.out
              have hsz6 : w.heap.size < (((w6.setCell ⟨w.heap.size, 0, none⟩ (.string ⟨c.k.toArray⟩)).setCell ⟨w.heap.size, 1, none⟩ (.int .i64 c.q)).setCell ⟨w.heap.size, 2, none⟩ (.string ⟨c.v.toArray⟩)).heap.size := Nat.lt_of_lt_of_le l4.lt (Nat.le_refl _)
              clear T T1 T2 T3 E4 q2 l3 l4 hsz hqP hn6
              go_wp2_with fail
              go_roundw
              case rel => exact ⟨k + 1, nx, some c, v6, acc ++ [c], rfl, by go_num, F, hsz6⟩
              case measure => simp [intOf]; omega
    · obtain rfl : k = many := by have := E.le; omega
      have hd := E.dec
      rw [Nat.sub_self] at hd
      simp only [eachB, finB, List.append_nil] at hd
      have hb := E.below
      by_cases ha : at' = s.length
      · rw [if_pos ha, HDD.out] at hd
        have HN := Lib.hid hd
        subst ha
        clear hd
        go_wp2_with fail
        go_ret
        refine ⟨ret1 (by rw [HN.out]; rfl), hb, fun l hl => ?_⟩
        rw [HDD.out, HN.out] at hl
        cases hl
        exact ⟨v, E.var, E.own.mono (by omega)⟩
      · rw [if_neg ha, HDD.out] at hd
        have HN := Lib.hid hd
        have hab : ((at' : Int) == (s.length : Int)) = false := by rw [beq_eq_false_iff_ne]; omega
        clear hd
        go_wp2_with fail
        go_ret
        exact ⟨ret1 (by rw [HN.out]; rfl), hb, fun l hl => by rw [HDD.out, HN.out] at hl; cases hl⟩
def DecEx (s : List UInt8) (w : World) (e : Ending) (w' : World) : Prop :=
 Below w.heap.size w w' ∧ ((decB s = none ∧ e = .returned (.tuple #[.slice none 0 0, .int .i64 30])) ∨
  ∃ l v, decB s = some l ∧ e = .returned (.tuple #[v, .int .i64 0]) ∧ w'.ownsRow w.heap.size 38 3 v l.length (rowOf l))
theorem decodeB_any (s : List UInt8) (w : World) (hs : s.length ≤ 1000000000) : Calls Tryz.prog 44 #[.string ⟨s.toArray⟩] w (DecEx s w) := by
 have hv : VarAt w.heap.size (.slice none 0 0) (w.alloc (.cells #[.slice none 0 0] 22)) := heap_alloc_new w _
 have b0 := (Below.refl w.heap.size w).alloc (Nat.le_refl _) (.cells #[.slice none 0 0] 22)
 have ce := each_any s w.heap.size (w.alloc (.cells #[.slice none 0 0] 22)) hs hv
 have hmf : ∀ (fn : Fn) (first cap : Array Value) (w : World), (Instr.makeFunc fn first cap).run Tryz.prog w = .ok (.func fn first cap) w := fun _ _ _ _ => rfl
 obtain ⟨D, hD⟩ : ∃ D, decB s = D := ⟨_, rfl⟩
 have HD := Lib.hid hD
 rw [hD] at ce
 have CE := Lib.hid ce
 clear ce hD
 cases D with
 | none =>
   simp only [Option.isSome_none] at CE
   go_enter Tryz.func44, Tryz.ntmps44
   go_wp2_with fail
   refine CE.out.mono ?_
   rintro e w1 ⟨rfl, hb, hx⟩
   clear hv
   go_wp2_with fail
   go_ret2
   exact ⟨b0.trans hb, .inl ⟨HD.out, rfl⟩⟩
 | some l =>
   simp only [Option.isSome_some] at CE
   go_enter Tryz.func44, Tryz.ntmps44
   go_wp2_with fail
   refine CE.out.mono ?_
   rintro e w1 ⟨rfl, hb, hx⟩
   clear hv
   obtain ⟨v, hv, own⟩ := hx l HD.out
   have HB := b0.trans hb
   have z0 := cell_of_one hv
   clear hx hb b0
   go_wp2_with fail
   go_ret2
   exact ⟨HB, .inr ⟨l, v, HD.out, rfl, own.mono (by omega)⟩⟩
def refFin (s : List UInt8) (acc : List Ce) : Option (List Ce × Nat) → Option (List Ce)
 | none => none
 | some (l, _) => if encB (acc ++ l) = some s then some (acc ++ l) else none
structure RefAt (s : List UInt8) (many : Nat) (w : World) (k at' : Nat) (p : Option Ce) (v : Value) (acc : List Ce) (wr : World) : Prop where
 le : k ≤ many
 atLe : at' ≤ s.length
 kLe : k ≤ at'
 len : acc.length = k
 key : (lastKey p).length ≤ at'
 fits : ∀ c ∈ acc, FitsC c
 own : wr.ownsRow w.heap.size 38 3 v acc.length (rowOf acc)
 below : Below w.heap.size w wr
 dec : decB s = refFin s acc (refEach s (many - k) at' p)
theorem own_later {w w' : World} {base n : Nat} {v : Value} {xs : List Value} {e : TypeId} (h : w.ownsRow base e 3 v n xs) (hb : Below w.heap.size w w') : w'.ownsRow base e 3 v n xs :=
 h.kept (row := none) ⟨hb.os, hb.tape, hb.output, hb.size, fun k hk _ => hb.block k hk⟩ (by cases h : v.ownBlock <;> simp)
theorem RefAt.later {s : List UInt8} {many : Nat} {w : World} {k at' : Nat} {p : Option Ce} {v : Value} {acc : List Ce} {wr w' : World} (h : RefAt s many w k at' p v acc wr) (hb : Below wr.heap.size wr w') : RefAt s many w k at' p v acc w' :=
 ⟨h.le, h.atLe, h.kLe, h.len, h.key, h.fits, own_later h.own hb, h.below.trans (hb.mono h.below.size), h.dec⟩
theorem eql_ce (x y : Ce) (W : World) : (binOp .eql 38 (ceVal x) (ceVal y)).run Tryz.prog W = .ok (.bool (decide (x = y))) W := by
 unfold ceVal
 go_simp
 obtain ⟨a1, a2, a3⟩ := x
 obtain ⟨b1, b2, b3⟩ := y
 simp only [Ce.mk.injEq]
 by_cases h1 : a1 = b1 <;> by_cases h2 : a2 = b2 <;> by_cases h3 : a3 = b3 <;> simp [*]
theorem neq_ce (x y : Ce) (W : World) : (binOp .neq 38 (ceVal x) (ceVal y)).run Tryz.prog W = .ok (.bool (!decide (x = y))) W := by
 unfold ceVal
 go_simp
 obtain ⟨a1, a2, a3⟩ := x
 obtain ⟨b1, b2, b3⟩ := y
 simp only [Ce.mk.injEq]
 by_cases h1 : a1 = b1 <;> by_cases h2 : a2 = b2 <;> by_cases h3 : a3 = b3 <;> simp [*]
theorem same_take {l m : List Ce} (hlm : l.length = m.length) {k : Nat} (hk : k < l.length) (h : l.take k = m.take k) : (l.take (k + 1) = m.take (k + 1)) ↔ l.getD k Ce.zero = m.getD k Ce.zero := by
 rw [take_ce l k hk, take_ce m k (by omega), h, List.append_cancel_left_eq]
 simp
theorem RowAt.head {b o : Nat} {l m : List Ce} {w : World} (h : RowAt b o (l ++ m) w) : RowAt b o l w :=
 ⟨h.1, fun i hi => by
   have := h.2 i (by rw [List.length_append]; omega)
   rwa [show (l ++ m).getD i Ce.zero = l.getD i Ce.zero by simp [List.getD, List.getElem?_append_left hi]] at this⟩
def someL : List Ce := [⟨[97, 98], 7, [120]⟩, ⟨[97, 98], 3, []⟩, ⟨[97, 99], 0, [121]⟩]
def SomeAt (g : Nat) (w : World) : Prop := w.heap[g]? = some (.cells #[.string ⟨#[97, 98]⟩, .int .i64 7, .string ⟨#[120]⟩, .string ⟨#[97, 98]⟩, .int .i64 3, .string ⟨#[]⟩, .string ⟨#[97, 99]⟩, .int .i64 0, .string ⟨#[121]⟩] 38 (0, 0))
theorem SomeAt.row {g : Nat} {w : World} (h : SomeAt g w) : RowAt g 0 someL w := by
 refine ⟨(Go.ltA h), fun i hi j v hv => ?_⟩
 rw [cell_of_row w g _ _ _ _ h]
 have hi' : i < 3 := hi
 have hj : j < 3 := by
  have := (List.getElem?_eq_some_iff.1 hv).1
  simpa [ceRow] using this
 rcases (by omega : i = 0 ∨ i = 1 ∨ i = 2) with rfl | rfl | rfl <;> rcases (by omega : j = 0 ∨ j = 1 ∨ j = 2) with rfl | rfl | rfl <;> simpa [someL, ceRow] using hv
theorem RowAt.sl {g cap : Nat} {l : List Ce} {w : World} {n : Nat} (h : RowAt g 0 l w) (hn : l.length = n) (hc : n ≤ cap) (hm : cap ≤ maxLen) : SlAt (.slice (some ⟨g, 0, none⟩) n cap) l w :=
 ⟨some ⟨g, 0, none⟩, cap, by rw [hn], by omega, hm, fun _ => ⟨g, 0, rfl, h⟩⟩
theorem ceRow_one (c : Ce) : ∀ u ∈ ceRow c, u.oneCell' = true := by
 intro u hu
 simp only [ceRow, List.mem_cons, List.not_mem_nil, or_false] at hu
 rcases hu with rfl | rfl | rfl <;> rfl
theorem rowOf_one (l : List Ce) : ∀ u ∈ rowOf l, u.oneCell' = true := by
 intro u hu
 unfold rowOf at hu
 obtain ⟨c, _, hc⟩ := List.mem_flatMap.1 hu
 exact ceRow_one c u hc
def badL : List Ce := [⟨[97, 98], 3, []⟩, ⟨[97, 98], 7, []⟩]
def BadAt (g : Nat) (w : World) : Prop := w.heap[g]? = some (.cells #[.string ⟨#[97, 98]⟩, .int .i64 3, .string ⟨#[]⟩, .string ⟨#[97, 98]⟩, .int .i64 7, .string ⟨#[]⟩] 38 (0, 0))
theorem BadAt.row {g : Nat} {w : World} (h : BadAt g w) : RowAt g 0 badL w := by
 refine ⟨(Go.ltA h), fun i hi j v hv => ?_⟩
 rw [cell_of_row w g _ _ _ _ h]
 have hi' : i < 2 := hi
 have hj : j < 3 := by
  have := (List.getElem?_eq_some_iff.1 hv).1
  simpa [ceRow] using this
 rcases (by omega : i = 0 ∨ i = 1) with rfl | rfl <;> rcases (by omega : j = 0 ∨ j = 1 ∨ j = 2) with rfl | rfl | rfl <;> simpa [badL, ceRow] using hv
theorem SomeAt.cell {g : Nat} {w : World} (h : SomeAt g w) : w.cell? ⟨g, 0, none⟩ = some (.string ⟨#[97, 98]⟩) ∧ w.cell? ⟨g, 1, none⟩ = some (.int .i64 7) ∧ w.cell? ⟨g, 2, none⟩ = some (.string ⟨#[120]⟩) := by
 refine ⟨?_, ?_, ?_⟩ <;> (rw [cell_of_row w g _ _ _ _ h]; rfl)
end Go.Proofs.YtoglloafpnopaaaGreat
