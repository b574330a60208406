/- The walk of Encode. The walks of the document's words: whether cells are sorted, and their bytes. The walk of one cell's reading. The walks of Decode: the function that each cell is told to, and the reading of one cell after the other. -/
import Derived.Test.YtoglloafpnopaaaGreatTC
import Derived.Deep.DeepCutAuto
import Derived.OneCell
set_option linter.unusedSimpArgs false
set_option linter.unusedVariables false
namespace Go.Proofs.YtoglloafpnopaaaGreat
set_option maxRecDepth 16000
open Go.RowKit Spoor
theorem strFrom (l : List UInt8) (i : Nat) (I : Int) (hI : I = i) (h : i ≤ l.length) (W : World) :
 (Instr.slice 9 (.string ⟨l.toArray⟩) (some (.int .i64 I)) none none).run Tryz.prog W = .ok (.string ⟨(l.drop i).toArray⟩) W := by
 subst hI
 go_simp
 rw [extract_bytes]
 simp [List.take_of_length_le]
theorem CeAt.grown {g : Nat} {c : Ce} {w w' : World} {base : Nat} {v : Value} {bs : List UInt8} (h : CeAt g c w) (own : w.ownsT base 5 v bs) (hg : w.grownBy w' v.ownBlock) : CeAt g c w' := by
 unfold CeAt
 rw [hg.block g h.lt ?_]
 · exact h
 · obtain ⟨b, cap, cur, fz, rfl, _, hb, _⟩ := own
   intro e
   simp only [Value.ownBlock, Option.some.injEq] at e
   subst e
   rw [h] at hb
   simp only [Option.some.injEq, Obj.cells.injEq] at hb
   exact absurd hb.2.1 (by decide)
theorem four_index (p0 p1 p2 p3 : List UInt8) (W : World) :
 (Instr.index 119 (.agg #[.string ⟨p0.toArray⟩, .string ⟨p1.toArray⟩, .string ⟨p2.toArray⟩, .string ⟨p3.toArray⟩]) (.int .i64 0)).run Tryz.prog W = .ok (.string ⟨p0.toArray⟩) W ∧
 (Instr.index 119 (.agg #[.string ⟨p0.toArray⟩, .string ⟨p1.toArray⟩, .string ⟨p2.toArray⟩, .string ⟨p3.toArray⟩]) (.int .i64 1)).run Tryz.prog W = .ok (.string ⟨p1.toArray⟩) W ∧
 (Instr.index 119 (.agg #[.string ⟨p0.toArray⟩, .string ⟨p1.toArray⟩, .string ⟨p2.toArray⟩, .string ⟨p3.toArray⟩]) (.int .i64 2)).run Tryz.prog W = .ok (.string ⟨p2.toArray⟩) W ∧
 (Instr.index 119 (.agg #[.string ⟨p0.toArray⟩, .string ⟨p1.toArray⟩, .string ⟨p2.toArray⟩, .string ⟨p3.toArray⟩]) (.int .i64 3)).run Tryz.prog W = .ok (.string ⟨p3.toArray⟩) W := by
 refine ⟨?_, ?_, ?_, ?_⟩ <;> kernel_rfl
set_option maxHeartbeats 4000000 in
theorem encodeB_any (s : Value) (l : List Ce) (w : World) (hs : SlAt s l w) (hf : ∀ c ∈ l, FitsC c) (hso : sortedB l = true) (hlen : (blockB l).length ≤ 140737488355328) :
 Calls Tryz.prog 34 #[s] w fun e w' => e = .returned (.tuple #[.string ⟨(blockB l).toArray⟩, .int .i64 0]) ∧ Below w.heap.size w w' := by
 have cs := sortedC_any s l w hs hf
 rw [hso] at cs
 have CS := Lib.hid cs
 obtain ⟨A, cap, rfl, h1, h2, h3⟩ := hs
 unfold maxLen at h2
 have H3 := Lib.hid h3
 have HF := Lib.hid hf
 have HM := Lib.hid (sorted_may hso)
 obtain ⟨n, hn⟩ : ∃ n, l.length = n := ⟨_, rfl⟩
 have HN := Lib.hid hn
 have hn63 : n ≤ 9223372036854775807 := by omega
 rw [hn] at h1 CS ⊢
 have HL := Lib.hid hlen
 have cp := fun W => put_nat n W hn63
 have CP := Lib.hid cp
 have hpl := put_length9 n hn63
 have kc := fun W => run_bytes_T (P := Tryz.prog) W 9 73 5 (put n) Tryz.underlying9 Tryz.underlying73 Tryz.underlying5 (by unfold maxLen; omega)
 have KC := Lib.hid kc
 clear cs h3 hf hn hso hlen cp hpl kc
 go_enter Tryz.func34, Tryz.ntmps34
 go_wp2_with fail
 refine CS.out.mono ?_
 rintro e w1 ⟨rfl, b1⟩
 go_wp2_with fail
 refine (CP.out _).mono ?_
 rintro e w2 ⟨rfl, b2⟩
 have B := btB b1 b2
 obtain ⟨v0, w3, kr, own, b3⟩ := KC.out w2
 obtain ⟨i0, hi, hz0, hz1, hz2⟩ := info_parts info_u8
 go_wp2_with fail
 clear kr
 have own := own.mono B.size
 have B := btB B b3
 have hs0 : w.heap.size ≤ w3.heap.size := B.size
 go_loopw [4, 5, 20] (fun v s i wr => ∃ k : Nat, k ≤ n ∧ i = .int .i64 k ∧ s = .string ⟨(lastKey (prevOf l k)).toArray⟩ ∧ wr.ownsT w.heap.size 5 v (put n ++ bodyB none (l.take k)) ∧ Below w.heap.size w wr) (fun _ _ i _ => n - (intOf i).toNat)
 case atStart => exact ⟨0, by omega, rfl, rfl, by simpa [bodyB] using own, B⟩
 case round =>
  clear own B b1 b2 b3 hs0
  obtain ⟨k, hk, rfl, rfl, own, hb⟩ := hrel
  by_cases hlt : k < n
  · have hkl : k < l.length := by rw [HN.out]; exact hlt
    obtain ⟨b, o, rfl, hrow⟩ := H3.out (by rw [HN.out]; omega)
    have hlb := hrow.1
    have hrow := hrow.later hb hlb
    obtain ⟨x0, x1, x2⟩ := hrow.cells hkl
    obtain ⟨f1, f2, f3⟩ := getD_lt HF.out hkl
    obtain ⟨m1, m2, m3, m4⟩ := may_of (getD_lt HM.out hkl)
    have hpk : (lastKey (prevOf l k)).length ≤ 64 := by
     unfold prevOf
     split
     · simp [lastKey]
     · exact (may_of (getD_lt HM.out (i := k - 1) (by omega))).2.1
    have hbt := bodyB_take l k hkl
    have hbl : (put n ++ bodyB none (l.take (k + 1))).length ≤ 140737488355328 := by
     have h1 := bodyB_take_le l (k + 1)
     have h2 := HL.out
     unfold blockB at h2
     rw [HN.out] at h2
     rw [List.length_append] at h2 ⊢
     omega
    rw [hbt, ← List.append_assoc] at hbl
    have hnx : lastKey (prevOf l (k + 1)) = (l.getD k Ce.zero).k := by simp [prevOf, lastKey]
    have q1 := CeAt.boxed (l.getD k Ce.zero) wr
    have b1 := (Below.refl wr.heap.size wr).alloc (Nat.le_refl _) (boxC (l.getD k Ce.zero))
    have HB := Lib.hid hbt
    have HX := Lib.hid hnx
    clear hbt hnx
    generalize l.getD k Ce.zero = c at *
    generalize lastKey (prevOf l k) = last at *
    generalize hX : put n ++ bodyB none (l.take k) = X at *
    have HXX := Lib.hid hX
    clear hX
    unfold cellBytes at hbl
    have cl := common_le last c.k
    have cc := fun W => common_any last c.k W (by omega) f1
    have hcl63 : common last c.k ≤ 9223372036854775807 := by omega
    have c0 := fun W => put_nat (common last c.k) W hcl63
    have c1 := fun W => putText_any ⟨(c.k.drop (common last c.k)).toArray⟩ W (by rw [size_of, List.length_drop]; omega)
    have hq : ((c.q.toNat : Nat) : Int) = c.q := by omega
    have c2 := fun W => put_nat c.q.toNat W (by omega)
    have c3 := fun W => putText_any ⟨c.v.toArray⟩ W (by rw [size_of]; omega)
    rw [hq] at c2
    have hsl := fun W => strFrom c.k (common last c.k) (common last c.k : Nat) rfl (by omega) W
    have hcb : cellBytes last c = put (common last c.k) ++ (putText (c.k.drop (common last c.k)) ++ (put c.q.toNat ++ putText c.v)) := rfl
    have HCB := Lib.hid hcb
    clear hcb hq m1 m2 m3 m4 cl
    simp only [List.toList_toArray] at c1 c3
    generalize hp0 : put (common last c.k) = p0 at *
    generalize hp1 : putText (c.k.drop (common last c.k)) = p1 at *
    generalize hp2 : put c.q.toNat = p2 at *
    generalize hp3 : putText c.v = p3 at *
    simp only [List.length_append] at hbl
    generalize common last c.k = m at *
    generalize c.k.drop m = rest at *
    have CC := Lib.hid cc
    have C0 := Lib.hid c0
    have C1 := Lib.hid c1
    have C2 := Lib.hid c2
    have C3 := Lib.hid c3
    clear cc c0 c1 c2 c3 hp0 hp1 hp2 hp3
    unfold boxC at q1 b1
    have B := btB hb b1
    have own := own.later b1
    go_wp2_with fail
    refine (CC.out _).mono ?_
    rintro e w4 ⟨rfl, b4⟩
    have q1 := q1.later b4 q1.lt
    have own := own.later b4
    have B := btB B b4
    generalize wr.heap.size = g at *
    clear x0 x1 x2 hrow b1 hb hlb b4
    obtain ⟨x0, x1, x2⟩ := q1.cell
    have lt1 := q1.lt
    go_wp2_with fail
    refine wp_region_more (by kernel_rfl) (by kernel_rfl) ?_
    repeat (go_big_quiet_step (fail))
    go_big_quiet_step (exact Calls.more (C0.out _))
    repeat (go_big_quiet_step (fail))
    go_big_quiet_step (exact Calls.more (C1.out _))
    repeat (go_big_quiet_step (fail))
    go_big_quiet_step (exact Calls.more (C2.out _))
    repeat (go_big_quiet_step (fail))
    go_big_quiet_step (exact Calls.more (C3.out _))
    repeat (go_big_quiet_step (fail))
    refine wpQuiet_nil ?_
    rintro _ ⟨ex, rfl⟩
    have b2 := World.below_more w4 ex
    generalize w4.more ex = w5 at *
    have own := own.later b2
    have B := btB B b2
    have q1 := q1.later b2 lt1
    clear b2 x0 x1 x2 lt1
    go_wp2_with fail
    refine wp_loop_rounds 5 ?_
    have gi := fun W => (four_index p0 p1 p2 p3 W).1
    have hbs := B.size
    rw [rounds_succ]
    go_wp2_with (at_builtin; refine wpList_append_T _ rfl _ _ 73 9 rfl w.heap.size 5 i0 Tryz.underlying73 Tryz.underlying9 hi hz0 hz1 hz2 _ _ p0 rfl own rfl (by first | omega | (simp only [List.length_append]; omega)) hbs ?_)
    intro v1 y1 own1 gr
    have B := own.below B gr hbs
    have q1 := q1.grown own gr
    clear own gr hbs gi
    have own := own1
    clear own1
    go_wp2_with fail
    have gi := fun W => (four_index p0 p1 p2 p3 W).2.1
    have hbs := B.size
    rw [rounds_succ]
    go_wp2_with (at_builtin; refine wpList_append_T _ rfl _ _ 73 9 rfl w.heap.size 5 i0 Tryz.underlying73 Tryz.underlying9 hi hz0 hz1 hz2 _ _ p1 rfl own rfl (by first | omega | (simp only [List.length_append]; omega)) hbs ?_)
    intro v2 y2 own2 gr
    have B := own.below B gr hbs
    have q1 := q1.grown own gr
    clear own gr hbs gi
    have own := own2
    clear own2
    go_wp2_with fail
    have gi := fun W => (four_index p0 p1 p2 p3 W).2.2.1
    have hbs := B.size
    rw [rounds_succ]
    go_wp2_with (at_builtin; refine wpList_append_T _ rfl _ _ 73 9 rfl w.heap.size 5 i0 Tryz.underlying73 Tryz.underlying9 hi hz0 hz1 hz2 _ _ p2 rfl own rfl (by first | omega | (simp only [List.length_append]; omega)) hbs ?_)
    intro v3 y3 own3 gr
    have B := own.below B gr hbs
    have q1 := q1.grown own gr
    clear own gr hbs gi
    have own := own3
    clear own3
    go_wp2_with fail
    have gi := fun W => (four_index p0 p1 p2 p3 W).2.2.2
    have hbs := B.size
    rw [rounds_succ]
    go_wp2_with (at_builtin; refine wpList_append_T _ rfl _ _ 73 9 rfl w.heap.size 5 i0 Tryz.underlying73 Tryz.underlying9 hi hz0 hz1 hz2 _ _ p3 rfl own rfl (by first | omega | (simp only [List.length_append]; omega)) hbs ?_)
    intro v4 y4 own4 gr
    have B := own.below B gr hbs
    have q1 := q1.grown own gr
    clear own gr hbs gi
    have own := own4
    clear own4
    go_wp2_with fail
    rw [rounds_succ]
    obtain ⟨x0, x1, x2⟩ := q1.cell
    go_wp2_with fail
    go_roundw
    case rel =>
     refine ⟨k + 1, by omega, by go_num, by rw [HX.out], ?_, B⟩
     rw [HB.out, ← List.append_assoc, HXX.out, HCB.out]
     simpa only [List.append_assoc] using own
    case measure => simp [intOf]; omega
  · obtain rfl : k = n := by omega
    rw [List.take_of_length_le (by rw [HN.out]; exact Nat.le_refl _)] at own
    have hcv := fun W (h : World.ownsT W w.heap.size 5 u4 (put k ++ bodyB none l)) => run_string_T (P := Tryz.prog) W 73 9 5 w.heap.size u4 _ Tryz.underlying73 Tryz.underlying5 Tryz.underlying9 h
    have hcv := hcv _ own
    go_wp2_with fail
    go_ret2
    exact ⟨ret2 (by unfold blockB; rw [HN.out]; rfl) rfl, hb⟩
theorem strAdd (a b : List UInt8) : (⟨a.toArray⟩ ++ ⟨b.toArray⟩ : ByteArray) = ⟨(a ++ b).toArray⟩ := ByteArray.mk_append_mk a b
theorem getAt_nat (l : List UInt8) (n : Nat) : getAt l (n : Int) = getV n (get (l.drop n)) := by
 unfold getAt
 rw [if_neg (by omega), Int.toNat_natCast]
theorem getTextAt_nat (l : List UInt8) (n : Nat) : getTextAt l (n : Int) = getTextV n (getText (l.drop n)) := by
 unfold getTextAt
 rw [if_neg (by omega), Int.toNat_natCast]
theorem getN_any (s : List UInt8) (n : Nat) (W : World) (hs : s.length ≤ 140737488351232) :
 Calls Tryz.prog 71 #[.string ⟨s.toArray⟩, .int .i64 n] W fun e w' => e = .returned (getV n (get (s.drop n))) ∧ W = w' := by
 have := get_any ⟨s.toArray⟩ (n : Int) W (by rw [size_of]; unfold maxLen; omega)
 simp only [getAt_nat] at this
 exact this
theorem getTextN_any (s : List UInt8) (n : Nat) (W : World) (hs : s.length ≤ 140737488351232) :
 Calls Tryz.prog 72 #[.string ⟨s.toArray⟩, .int .i64 n] W fun e w' => e = .returned (getTextV n (getText (s.drop n))) ∧ W = w' := by
 have := getText_any ⟨s.toArray⟩ (n : Int) W (by rw [size_of]; unfold maxLen; omega)
 simp only [getTextAt_nat] at this
 exact this
def junkC (s : List UInt8) (at' : Nat) (last : List UInt8) : Ce :=
 match get (s.drop at') with
 | none => Ce.zero
 | some (n, k1) => if last.length < n then Ce.zero else
   match getText (s.drop (at' + k1)) with
   | none => Ce.zero
   | some (rest, k2) => if n < last.length ∧ rest ≠ [] ∧ rest.getD 0 0 = last.getD n 0 then Ce.zero else
     match get (s.drop (at' + k1 + k2)) with
     | none => Ce.zero
     | some (q, _) => ⟨last.take n ++ rest, (q : Int), []⟩
def cellV (s : List UInt8) (at' : Nat) (last : List UInt8) : Value :=
 match cellAt true s at' last with
 | none => .tuple #[ceVal (junkC s at' last), .int .i64 0, .bool false]
 | some (c, nx) => .tuple #[ceVal c, .int .i64 (nx : Nat), .bool true]
theorem strTo (l : List UInt8) (j : Nat) (J : Int) (hJ : J = j) (h2 : j ≤ l.length) (W : World) :
 (Instr.slice 9 (.string ⟨l.toArray⟩) none (some (.int .i64 J)) none).run Tryz.prog W = .ok (.string ⟨(l.take j).toArray⟩) W := by
 subst hJ
 go_simp
 rw [extract_bytes]
 simp
theorem CeAt.set0 {g : Nat} {c : Ce} {w : World} (h : CeAt g c w) (k : List UInt8) : CeAt g ⟨k, c.q, c.v⟩ (w.setCell ⟨g, 0, none⟩ (.string ⟨k.toArray⟩)) := by
 unfold CeAt at *
 rw [heap_setCell_same w g 0 _ _ _ h]
 rfl
theorem CeAt.set1 {g : Nat} {c : Ce} {w : World} (h : CeAt g c w) (q : Int) : CeAt g ⟨c.k, q, c.v⟩ (w.setCell ⟨g, 1, none⟩ (.int .i64 q)) := by
 unfold CeAt at *
 rw [heap_setCell_same w g 1 _ _ _ h]
 rfl
theorem CeAt.set2 {g : Nat} {c : Ce} {w : World} (h : CeAt g c w) (v : List UInt8) : CeAt g ⟨c.k, c.q, v⟩ (w.setCell ⟨g, 2, none⟩ (.string ⟨v.toArray⟩)) := by
 unfold CeAt at *
 rw [heap_setCell_same w g 2 _ _ _ h]
 rfl
theorem below_set {B g : Nat} {a w : World} (h : Below B a w) (hB : B ≤ g) (i : Nat) (v : Value) : Below B a (w.setCell ⟨g, i, none⟩ v) := h.setCell (p := ⟨g, i, none⟩) hB v
theorem CeAt.all {g : Nat} {c : Ce} {w a : World} {B : Nat} (h : CeAt g c w) (hb : Below B a w) (hB : B ≤ g) (d : Ce) :
 CeAt g d (((w.setCell ⟨g, 0, none⟩ (.string ⟨d.k.toArray⟩)).setCell ⟨g, 1, none⟩ (.int .i64 d.q)).setCell ⟨g, 2, none⟩ (.string ⟨d.v.toArray⟩)) ∧
 Below B a (((w.setCell ⟨g, 0, none⟩ (.string ⟨d.k.toArray⟩)).setCell ⟨g, 1, none⟩ (.int .i64 d.q)).setCell ⟨g, 2, none⟩ (.string ⟨d.v.toArray⟩)) :=
 ⟨((h.set0 d.k).set1 d.q).set2 d.v, below_set (below_set (below_set hb hB 0 _) hB 1 _) hB 2 _⟩
theorem CeAt.two {g : Nat} {c : Ce} {w a : World} {B : Nat} (h : CeAt g c w) (hb : Below B a w) (hB : B ≤ g) (k : List UInt8) (q : Int) :
 CeAt g ⟨k, q, c.v⟩ ((w.setCell ⟨g, 0, none⟩ (.string ⟨k.toArray⟩)).setCell ⟨g, 1, none⟩ (.int .i64 q)) ∧
 Below B a ((w.setCell ⟨g, 0, none⟩ (.string ⟨k.toArray⟩)).setCell ⟨g, 1, none⟩ (.int .i64 q)) :=
 ⟨(h.set0 k).set1 q, below_set (below_set hb hB 0 _) hB 1 _⟩
set_option maxRecDepth 100000 in
set_option maxHeartbeats 16000000 in
theorem cell_any (s : List UInt8) (at' : Nat) (last : List UInt8) (w : World) (hs : s.length ≤ 140737488351232) (hl : last.length ≤ 140737488351232) :
 Calls Tryz.prog 91 #[.string ⟨s.toArray⟩, .int .i64 at', .string ⟨last.toArray⟩] w fun e w' => e = .returned (cellV s at' last) ∧ Below w.heap.size w w' := by
 have q1 := CeAt.boxed Ce.zero w
 have b0 := (Below.refl w.heap.size w).alloc (Nat.le_refl _) (boxC Ce.zero)
 unfold boxC Ce.zero at *
 try dsimp only at q1 b0
 have cg := fun W => getN_any s at' W hs
 have CG := Lib.hid cg
 clear cg
 have hgs : w.heap.size ≤ w.heap.size := Nat.le_refl _
 unfold cellV cellAt junkC
 cases e1 : get (s.drop at') with
 | none =>
   simp only
   rw [e1] at CG
   unfold getV at CG
   clear e1
   unfold ceVal Ce.zero
   try dsimp only
   go_enter Tryz.func91, Tryz.ntmps91
   go_wp2_with fail
   generalize w.alloc _ = w1 at *
   obtain ⟨y0, y1, y2⟩ := q1.cell
   obtain ⟨z0, z1, z2⟩ := q1.frees
   try dsimp only at y0 y1 y2
   go_wp2_with fail
   refine (CG.out _).mono ?_
   rintro e w2 ⟨rfl, rfl⟩
   go_wp2_with fail
   obtain ⟨q2, b2⟩ := q1.all b0 hgs Ce.zero
   unfold Ce.zero at q2 b2
   generalize ((World.setCell _ _ _).setCell _ _).setCell _ _ = w9 at *
   clear y0 y1 y2 z0 z1 z2
   obtain ⟨y0, y1, y2⟩ := q2.cell
   exact bodyPost_ret (v := .tuple #[.agg #[.string ⟨#[]⟩, .int .i64 0, .string ⟨#[]⟩], .int .i64 0, .bool false]) (by simp [results, Tryz.results91, go_sem, *]) rfl ⟨rfl, b2⟩
 | some r1 =>
   obtain ⟨n, k1⟩ := r1
   obtain ⟨_, _, gk, gn, _⟩ := get_some e1
   rw [List.length_drop] at gk
   rw [e1] at CG
   unfold getV at CG
   simp only
   clear e1
   have ct := fun W => getTextN_any s (at' + k1) W hs
   have CT := Lib.hid ct
   clear ct
   by_cases hn : last.length < n
   · rw [if_pos hn, if_pos hn]
     have hn1 : (last.length : Int) < (n : Int) := by omega
     unfold ceVal Ce.zero
     try dsimp only
     go_enter Tryz.func91, Tryz.ntmps91
     go_wp2_with fail
     generalize w.alloc _ = w1 at *
     obtain ⟨y0, y1, y2⟩ := q1.cell
     obtain ⟨z0, z1, z2⟩ := q1.frees
     try dsimp only at y0 y1 y2
     go_wp2_with fail
     refine (CG.out _).mono ?_
     rintro e w2 ⟨rfl, rfl⟩
     go_wp2_with fail
     obtain ⟨q2, b2⟩ := q1.all b0 hgs Ce.zero
     unfold Ce.zero at q2 b2
     generalize ((World.setCell _ _ _).setCell _ _).setCell _ _ = w9 at *
     clear y0 y1 y2 z0 z1 z2
     obtain ⟨y0, y1, y2⟩ := q2.cell
     exact bodyPost_ret (v := .tuple #[.agg #[.string ⟨#[]⟩, .int .i64 0, .string ⟨#[]⟩], .int .i64 0, .bool false]) (by simp [results, Tryz.results91, go_sem, *]) rfl ⟨rfl, b2⟩
   · rw [if_neg hn, if_neg hn]
     have hn1 : decide ((last.length : Int) < (n : Int)) = false := decide_eq_false (by omega)
     have hn2 : decide (last.length < n) = false := decide_eq_false (by omega)
     cases e2 : getText (s.drop (at' + k1)) with
     | none =>
       simp only
       rw [e2] at CT
       unfold getTextV at CT
       clear e2
       unfold ceVal Ce.zero
       try dsimp only
       go_enter Tryz.func91, Tryz.ntmps91
       go_wp2_with fail
       generalize w.alloc _ = w1 at *
       obtain ⟨y0, y1, y2⟩ := q1.cell
       obtain ⟨z0, z1, z2⟩ := q1.frees
       try dsimp only at y0 y1 y2
       go_wp2_with fail
       refine (CG.out _).mono ?_
       rintro e w2 ⟨rfl, rfl⟩
       go_wp2_with fail
       refine (CT.out _).mono ?_
       rintro e w3 ⟨rfl, rfl⟩
       go_wp2_with fail
       go_quiet (fail)
       obtain ⟨w4, hw4⟩ : ∃ w4, w1.drewN nq = w4 := ⟨_, rfl⟩
       have bx : Below w1.heap.size w1 w4 := hw4 ▸ _root_.Go.below_drewN (Below.refl _ _) nq
       rw [hw4]
       clear hw4
       have q1 := q1.later bx q1.lt
       have b0 := btB b0 bx
       clear bx y0 y1 y2 z0 z1 z2
       obtain ⟨y0, y1, y2⟩ := q1.cell
       obtain ⟨z0, z1, z2⟩ := q1.frees
       try dsimp only at y0 y1 y2
       go_wp2_with fail
       obtain ⟨q2, b2⟩ := q1.all b0 hgs Ce.zero
       unfold Ce.zero at q2 b2
       generalize ((World.setCell _ _ _).setCell _ _).setCell _ _ = w9 at *
       clear y0 y1 y2 z0 z1 z2
       obtain ⟨y0, y1, y2⟩ := q2.cell
       exact bodyPost_ret (v := .tuple #[.agg #[.string ⟨#[]⟩, .int .i64 0, .string ⟨#[]⟩], .int .i64 0, .bool false]) (by simp [results, Tryz.results91, go_sem, *]) rfl ⟨rfl, b2⟩
     | some r2 =>
       obtain ⟨rest, k2⟩ := r2
       obtain ⟨gk2, gl2, _⟩ := getText_some e2
       rw [List.length_drop] at gk2
       rw [e2] at CT
       unfold getTextV at CT
       simp only
       clear e2
       have cg2 := fun W => getN_any s (at' + k1 + k2) W hs
       have CG2 := Lib.hid cg2
       clear cg2
       by_cases hc : n < last.length ∧ rest ≠ [] ∧ rest.getD 0 0 = last.getD n 0
       · simp only [eq_self_iff_true, true_and, if_pos hc]
         obtain ⟨h1, h2, h3⟩ := hc
         have hrl : 0 < rest.length := by cases rest with
          | nil => exact absurd rfl h2
          | cons a b => simp
         have i1 := fun W => at_of rest 0 hrl W
         have i2 := fun W => at_of last n h1 W
         rw [h3] at i1
         simp only [Int.natCast_zero] at i1
         have h4 : rest.isEmpty = false := by cases rest with
          | nil => exact absurd rfl h2
          | cons a b => rfl
         have h5 : (rest == []) = false := by cases rest with
          | nil => exact absurd rfl h2
          | cons a b => rfl
         clear h2 h3
         generalize ((last.getD n 0).toNat : Int) = y at *
         unfold ceVal Ce.zero
         try dsimp only
         go_enter Tryz.func91, Tryz.ntmps91
         go_wp2_with fail
         generalize w.alloc _ = w1 at *
         obtain ⟨y0, y1, y2⟩ := q1.cell
         obtain ⟨z0, z1, z2⟩ := q1.frees
         try dsimp only at y0 y1 y2
         go_wp2_with fail
         refine (CG.out _).mono ?_
         rintro e w2 ⟨rfl, rfl⟩
         go_wp2_with fail
         refine (CT.out _).mono ?_
         rintro e w3 ⟨rfl, rfl⟩
         go_wp2_with fail
         go_quiet (fail)
         obtain ⟨w4, hw4⟩ : ∃ w4, w1.drewN nq = w4 := ⟨_, rfl⟩
         have bx : Below w1.heap.size w1 w4 := hw4 ▸ _root_.Go.below_drewN (Below.refl _ _) nq
         rw [hw4]
         clear hw4
         have q1 := q1.later bx q1.lt
         have b0 := btB b0 bx
         clear bx y0 y1 y2 z0 z1 z2
         obtain ⟨y0, y1, y2⟩ := q1.cell
         obtain ⟨z0, z1, z2⟩ := q1.frees
         try dsimp only at y0 y1 y2
         go_wp2_with fail
         obtain ⟨q2, b2⟩ := q1.all b0 hgs Ce.zero
         unfold Ce.zero at q2 b2
         generalize ((World.setCell _ _ _).setCell _ _).setCell _ _ = w9 at *
         clear y0 y1 y2 z0 z1 z2
         obtain ⟨y0, y1, y2⟩ := q2.cell
         exact bodyPost_ret (v := .tuple #[.agg #[.string ⟨#[]⟩, .int .i64 0, .string ⟨#[]⟩], .int .i64 0, .bool false]) (by simp [results, Tryz.results91, go_sem, *]) rfl ⟨rfl, b2⟩
       · simp only [eq_self_iff_true, true_and, if_neg hc]
         have HC := Lib.hid hc
         clear hc
         cases e3 : get (s.drop (at' + k1 + k2)) with
         | none =>
           simp only
           rw [e3] at CG2
           unfold getV at CG2
           clear e3
           unfold ceVal Ce.zero
           try dsimp only
           go_enter Tryz.func91, Tryz.ntmps91
           go_wp2_with fail
           generalize w.alloc _ = w1 at *
           obtain ⟨y0, y1, y2⟩ := q1.cell
           obtain ⟨z0, z1, z2⟩ := q1.frees
           try dsimp only at y0 y1 y2
           go_wp2_with fail
           refine (CG.out _).mono ?_
           rintro e w2 ⟨rfl, rfl⟩
           go_wp2_with fail
           refine (CT.out _).mono ?_
           rintro e w3 ⟨rfl, rfl⟩
           go_upto_region 5 with fail
           go_cut [53] (fun v wx => v = .bool false ∧ Below w1.heap.size w1 wx)
           case first =>
            by_cases h1 : (n : Int) < (last.length : Int)
            · cases rest with
              | nil =>
                clear HC
                go_quiet (fail)
                go_wp2_with fail
                go_meet
                exact ⟨rfl, _root_.Go.below_drewN (Below.refl _ _) _⟩
              | cons r0 rs =>
                have hne : r0 ≠ last.getD n 0 := fun e => HC.out ⟨by omega, by simp, by simpa using e⟩
                have hneb : ((r0.toNat : Int) == ((last.getD n 0).toNat : Int)) = false := by
                 rw [beq_eq_false_iff_ne]; intro e; exact hne (UInt8.toNat_inj.1 (Int.ofNat.inj e))
                have i1 := fun W => at_of (r0 :: rs) 0 (by simp) W
                simp only [List.getD_cons_zero, Int.natCast_zero] at i1
                have i2 := fun W => at_of last n (by omega) W
                clear HC hne
                generalize ((last.getD n 0).toNat : Int) = y at *
                generalize (r0.toNat : Int) = x at *
                go_quiet (fail)
                go_wp2_with fail
                go_meet
                exact ⟨rfl, _root_.Go.below_drewN (Below.refl _ _) _⟩
            · have e2 := decide_eq_false h1
              have e3 : decide (n < last.length) = false := decide_eq_false (by omega)
              clear HC
              go_quiet (fail)
              go_wp2_with fail
              go_meet
              exact ⟨rfl, _root_.Go.below_drewN (Below.refl _ _) _⟩
           case rest =>
            obtain ⟨rfl, bx⟩ := hcut
            have q1 := q1.later bx q1.lt
            have b0 := btB b0 bx
            clear bx y0 y1 y2 z0 z1 z2
            obtain ⟨y0, y1, y2⟩ := q1.cell
            obtain ⟨z0, z1, z2⟩ := q1.frees
            try dsimp only at y0 y1 y2
            have sl := fun W => strTo last n (n : Int) rfl (by omega) W
            go_wp2_with fail
            refine (CG2.out _).mono ?_
            rintro e w5 ⟨rfl, rfl⟩
            go_wp2_with fail
            rw [strAdd]
            obtain ⟨q3, b3⟩ := q1.two b0 hgs (last.take n ++ rest) 0
            generalize (World.setCell wc ⟨w.heap.size, 0, none⟩ _).setCell ⟨w.heap.size, 1, none⟩ _ = w6 at *
            clear q1 b0 y0 y1 y2 z0 z1 z2
            have q1 := q3
            have b0 := b3
            obtain ⟨y0, y1, y2⟩ := q1.cell
            obtain ⟨z0, z1, z2⟩ := q1.frees
            obtain ⟨q2, b2⟩ := q1.all b0 hgs Ce.zero
            unfold Ce.zero at q2 b2
            generalize ((World.setCell _ _ _).setCell _ _).setCell _ _ = w9 at *
            clear y0 y1 y2 z0 z1 z2
            obtain ⟨y0, y1, y2⟩ := q2.cell
            exact bodyPost_ret (v := .tuple #[.agg #[.string ⟨#[]⟩, .int .i64 0, .string ⟨#[]⟩], .int .i64 0, .bool false]) (by simp [results, Tryz.results91, go_sem, *]) rfl ⟨rfl, b2⟩
         | some r3 =>
           obtain ⟨q, k3⟩ := r3
           obtain ⟨_, _, gk3, gn3, _⟩ := get_some e3
           rw [List.length_drop] at gk3
           rw [e3] at CG2
           unfold getV at CG2
           simp only
           clear e3
           have ct2 := fun W => getTextN_any s (at' + k1 + k2 + k3) W hs
           have CT2 := Lib.hid ct2
           clear ct2
           cases e4 : getText (s.drop (at' + k1 + k2 + k3)) with
           | none =>
             simp only
             rw [e4] at CT2
             unfold getTextV at CT2
             clear e4
             unfold ceVal
             try dsimp only
             go_enter Tryz.func91, Tryz.ntmps91
             go_wp2_with fail
             generalize w.alloc _ = w1 at *
             obtain ⟨y0, y1, y2⟩ := q1.cell
             obtain ⟨z0, z1, z2⟩ := q1.frees
             try dsimp only at y0 y1 y2
             go_wp2_with fail
             refine (CG.out _).mono ?_
             rintro e w2 ⟨rfl, rfl⟩
             go_wp2_with fail
             refine (CT.out _).mono ?_
             rintro e w3 ⟨rfl, rfl⟩
             go_upto_region 5 with fail
             go_cut [53] (fun v wx => v = .bool false ∧ Below w1.heap.size w1 wx)
             case first =>
              by_cases h1 : (n : Int) < (last.length : Int)
              · cases rest with
                | nil =>
                  clear HC
                  go_quiet (fail)
                  go_wp2_with fail
                  go_meet
                  exact ⟨rfl, _root_.Go.below_drewN (Below.refl _ _) _⟩
                | cons r0 rs =>
                  have hne : r0 ≠ last.getD n 0 := fun e => HC.out ⟨by omega, by simp, by simpa using e⟩
                  have hneb : ((r0.toNat : Int) == ((last.getD n 0).toNat : Int)) = false := by
                   rw [beq_eq_false_iff_ne]; intro e; exact hne (UInt8.toNat_inj.1 (Int.ofNat.inj e))
                  have i1 := fun W => at_of (r0 :: rs) 0 (by simp) W
                  simp only [List.getD_cons_zero, Int.natCast_zero] at i1
                  have i2 := fun W => at_of last n (by omega) W
                  clear HC hne
                  generalize ((last.getD n 0).toNat : Int) = y at *
                  generalize (r0.toNat : Int) = x at *
                  go_quiet (fail)
                  go_wp2_with fail
                  go_meet
                  exact ⟨rfl, _root_.Go.below_drewN (Below.refl _ _) _⟩
              · have e2 := decide_eq_false h1
                have e3 : decide (n < last.length) = false := decide_eq_false (by omega)
                clear HC
                go_quiet (fail)
                go_wp2_with fail
                go_meet
                exact ⟨rfl, _root_.Go.below_drewN (Below.refl _ _) _⟩
             case rest =>
              obtain ⟨rfl, bx⟩ := hcut
              have q1 := q1.later bx q1.lt
              have b0 := btB b0 bx
              clear bx y0 y1 y2 z0 z1 z2
              obtain ⟨y0, y1, y2⟩ := q1.cell
              obtain ⟨z0, z1, z2⟩ := q1.frees
              try dsimp only at y0 y1 y2
              have sl := fun W => strTo last n (n : Int) rfl (by omega) W
              go_wp2_with fail
              refine (CG2.out _).mono ?_
              rintro e w5 ⟨rfl, rfl⟩
              go_wp2_with fail
              refine (CT2.out _).mono ?_
              rintro e w6 ⟨rfl, rfl⟩
              go_wp2_with fail
              try simp only [strAdd]
              obtain ⟨q3, b3⟩ := q1.all b0 hgs ⟨last.take n ++ rest, (q : Int), []⟩
              try dsimp only at q3 b3
              generalize ((World.setCell wc ⟨w.heap.size, 0, none⟩ _).setCell ⟨w.heap.size, 1, none⟩ _).setCell ⟨w.heap.size, 2, none⟩ _ = w7 at *
              obtain ⟨q2, b2⟩ := q3.all b3 hgs ⟨last.take n ++ rest, (q : Int), []⟩
              try dsimp only at q2 b2
              generalize ((World.setCell w7 ⟨w.heap.size, 0, none⟩ _).setCell ⟨w.heap.size, 1, none⟩ _).setCell ⟨w.heap.size, 2, none⟩ _ = w9 at *
              clear y0 y1 y2 z0 z1 z2
              obtain ⟨y0, y1, y2⟩ := q2.cell
              exact bodyPost_ret (v := .tuple #[.agg #[.string ⟨(last.take n ++ rest).toArray⟩, .int .i64 (q : Nat), .string ⟨#[]⟩], .int .i64 0, .bool false]) (by simp [results, Tryz.results91, go_sem, *]) rfl ⟨rfl, b2⟩
           | some r4 =>
             obtain ⟨v, k4⟩ := r4
             obtain ⟨gk4, gl4, _⟩ := getText_some e4
             rw [List.length_drop] at gk4
             simp only
             rw [e4] at CT2
             unfold getTextV at CT2
             clear e4
             unfold ceVal
             try dsimp only
             go_enter Tryz.func91, Tryz.ntmps91
             go_wp2_with fail
             generalize w.alloc _ = w1 at *
             obtain ⟨y0, y1, y2⟩ := q1.cell
             obtain ⟨z0, z1, z2⟩ := q1.frees
             try dsimp only at y0 y1 y2
             go_wp2_with fail
             refine (CG.out _).mono ?_
             rintro e w2 ⟨rfl, rfl⟩
             go_wp2_with fail
             refine (CT.out _).mono ?_
             rintro e w3 ⟨rfl, rfl⟩
             go_upto_region 5 with fail
             go_cut [53] (fun v wx => v = .bool false ∧ Below w1.heap.size w1 wx)
             case first =>
              by_cases h1 : (n : Int) < (last.length : Int)
              · cases rest with
                | nil =>
                  clear HC
                  go_quiet (fail)
                  go_wp2_with fail
                  go_meet
                  exact ⟨rfl, _root_.Go.below_drewN (Below.refl _ _) _⟩
                | cons r0 rs =>
                  have hne : r0 ≠ last.getD n 0 := fun e => HC.out ⟨by omega, by simp, by simpa using e⟩
                  have hneb : ((r0.toNat : Int) == ((last.getD n 0).toNat : Int)) = false := by
                   rw [beq_eq_false_iff_ne]; intro e; exact hne (UInt8.toNat_inj.1 (Int.ofNat.inj e))
                  have i1 := fun W => at_of (r0 :: rs) 0 (by simp) W
                  simp only [List.getD_cons_zero, Int.natCast_zero] at i1
                  have i2 := fun W => at_of last n (by omega) W
                  clear HC hne
                  generalize ((last.getD n 0).toNat : Int) = y at *
                  generalize (r0.toNat : Int) = x at *
                  go_quiet (fail)
                  go_wp2_with fail
                  go_meet
                  exact ⟨rfl, _root_.Go.below_drewN (Below.refl _ _) _⟩
              · have e2 := decide_eq_false h1
                have e3 : decide (n < last.length) = false := decide_eq_false (by omega)
                clear HC
                go_quiet (fail)
                go_wp2_with fail
                go_meet
                exact ⟨rfl, _root_.Go.below_drewN (Below.refl _ _) _⟩
             case rest =>
              obtain ⟨rfl, bx⟩ := hcut
              have q1 := q1.later bx q1.lt
              have b0 := btB b0 bx
              clear bx y0 y1 y2 z0 z1 z2
              obtain ⟨y0, y1, y2⟩ := q1.cell
              obtain ⟨z0, z1, z2⟩ := q1.frees
              try dsimp only at y0 y1 y2
              have sl := fun W => strTo last n (n : Int) rfl (by omega) W
              go_wp2_with fail
              refine (CG2.out _).mono ?_
              rintro e w5 ⟨rfl, rfl⟩
              go_wp2_with fail
              refine (CT2.out _).mono ?_
              rintro e w6 ⟨rfl, rfl⟩
              go_wp2_with fail
              try simp only [strAdd]
              obtain ⟨q3, b3⟩ := q1.all b0 hgs ⟨last.take n ++ rest, (q : Int), v⟩
              try dsimp only at q3 b3
              generalize ((World.setCell wc ⟨w.heap.size, 0, none⟩ _).setCell ⟨w.heap.size, 1, none⟩ _).setCell ⟨w.heap.size, 2, none⟩ _ = w7 at *
              obtain ⟨q2, b2⟩ := q3.all b3 hgs ⟨last.take n ++ rest, (q : Int), v⟩
              try dsimp only at q2 b2
              generalize ((World.setCell w7 ⟨w.heap.size, 0, none⟩ _).setCell ⟨w.heap.size, 1, none⟩ _).setCell ⟨w.heap.size, 2, none⟩ _ = w9 at *
              clear y0 y1 y2 z0 z1 z2
              obtain ⟨y0, y1, y2⟩ := q2.cell
              exact bodyPost_ret (v := .tuple #[.agg #[.string ⟨(last.take n ++ rest).toArray⟩, .int .i64 (q : Nat), .string ⟨v.toArray⟩], .int .i64 ((at' + k1 + k2 + k3 + k4 : Nat) : Int), .bool true]) (by simp [results, Tryz.results91, go_sem, *]) rfl ⟨rfl, b2⟩
def rowOf (l : List Ce) : List Value := l.flatMap ceRow
theorem rowOf_snoc (l : List Ce) (c : Ce) : rowOf (l ++ [c]) = rowOf l ++ ceRow c := by simp [rowOf]
theorem rowOf_length : ∀ l : List Ce, (rowOf l).length = l.length * 3
 | [] => rfl
 | c :: l => by
   have := rowOf_length l
   show (ceRow c ++ rowOf l).length = _
   rw [List.length_append, this]
   simp [ceRow]
   omega
theorem rowOf_at : ∀ (l : List Ce) (i j : Nat), i < l.length → j < 3 → (rowOf l)[i * 3 + j]? = (ceRow (l.getD i Ce.zero))[j]?
 | c :: l, 0, j, _, hj => by
   show (ceRow c ++ rowOf l)[0 * 3 + j]? = _
   rw [List.getElem?_append_left (by simp [ceRow]; omega)]
   simp
 | c :: l, i + 1, j, h, hj => by
   show (ceRow c ++ rowOf l)[(i + 1) * 3 + j]? = _
   rw [List.getElem?_append_right (by simp [ceRow]; omega)]
   have := rowOf_at l i j (by simpa using h) hj
   rw [show (i + 1) * 3 + j - (ceRow c).length = i * 3 + j by simp [ceRow]; omega, this]
   simp
theorem slAt_own {w : World} {base : Nat} {v : Value} {l : List Ce} (h : w.ownsRow base 38 3 v l.length (rowOf l)) : SlAt v l w := by
 have hc := fun g (hg : v.ownBlock = some g) => h.cells hg
 have hlt := h.lt
 rcases h.2 with ⟨rfl, h0⟩ | ⟨g, cap, cur, rfl, hb, hg, hn, hm, _⟩
 · exact ⟨none, 0, by rw [h0], by omega, by unfold maxLen; omega, fun hl => by omega⟩
 · refine ⟨some ⟨g, 0, none⟩, cap, rfl, hn, hm, fun _ => ⟨g, 0, rfl, (hlt g rfl).2, fun i hi j v hv => ?_⟩⟩
   have hj : j < 3 := by
    have := (List.getElem?_eq_some_iff.1 hv).1
    simpa [ceRow] using this
   have := hc g rfl (i * 3 + j) v (by rw [rowOf_at l i j hi hj]; exact hv)
   rw [Addr.add_lit] at this
   rw [← Nat.add_assoc] at this
   exact this
def VarAt (L : Nat) (v : Value) (w : World) : Prop := w.heap[L]? = some (.cells #[v] 22 (0, 0))
theorem info_ce : (Tryz.prog.info? 38).map (fun i => (i.zero, i.size, i.bytes)) = some (some (.agg #[.string ⟨#[]⟩, .int .i64 0, .string ⟨#[]⟩]), 3, 40) := by kernel_rfl
structure Told (L base : Nat) (v : Value) (l : List Ce) (w w' : World) (v' : Value) : Prop where
 var : VarAt L v' w'
 own : w'.ownsRow base 38 3 v' l.length (rowOf l)
 kept : ∀ g, g < w.heap.size → g ≠ L → v.ownBlock ≠ some g → w'.heap[g]? = w.heap[g]?
 below : Below L w w'
def ToldEx (L base : Nat) (v : Value) (l : List Ce) (w w' : World) : Prop := ∃ v', Told L base v l w w' v'
theorem told_any (c : Ce) (L base : Nat) (v : Value) (l : List Ce) (w : World) (hv : VarAt L v w) (own : w.ownsRow base 38 3 v l.length (rowOf l)) (hL : L < base) (hbs : base ≤ w.heap.size) (hbd : (l.length + 1) * 40 ≤ 140737488355328) :
 Calls Tryz.prog 74 #[ceVal c, .pointer (some ⟨L, 0, none⟩)] w fun e w' => e = .returned (.bool true) ∧ ToldEx L base v (l ++ [c]) w w' := by
 have hLs : L < w.heap.size := lt_of_block hv
 have q1 := CeAt.boxed c w
 have b1 := (Below.refl w.heap.size w).alloc (Nat.le_refl _) (boxC c)
 have own1 := own.alloc (boxC c)
 have hv1 : VarAt L v (w.alloc (boxC c)) := (Below.heap_alloc w _ L hLs).trans hv
 obtain ⟨i0, hi, hz0, hz1, hz2⟩ := info_parts info_ce
 have hsz1 : (w.alloc (boxC c)).heap.size = w.heap.size + 1 := by simp
 have HW := Lib.hid hsz1
 have hmax : l.length + 1 ≤ maxLen := by unfold maxLen; omega
 unfold ceVal
 unfold boxC at *
 go_enter Tryz.func74, Tryz.ntmps74
 clear hsz1
 go_upto_region 1 with fail
 generalize hw1 : w.alloc _ = w1 at *
 have HW1 := Lib.hid hw1
 clear hw1
 obtain ⟨y0, y1, y2⟩ := q1.cell
 have z0 := cell_of_one hv1
 have z1 := free_of_one hv1
 go_wp2_with (at_builtin; refine wpList_append_own _ rfl _ _ 22 rfl base 38 i0 (.agg #[.string ⟨#[]⟩, .int .i64 0, .string ⟨#[]⟩]) 3 40 Tryz.underlying22 hi hz0 hz1 hz2 rfl (by decide) v l.length (rowOf l) rfl (own1.alloc _) ⟨w1.heap.size, 0, none⟩ 1 1 (ceRow c) rfl rfl ?c1 ?c2 hmax hbd ?c5 ?_)
 case c1 =>
  have q3 := CeAt.boxed c w1
  unfold boxC at q3
  intro j u hj
  rw [Addr.add_lit, Nat.zero_add]
  obtain ⟨r0, r1, r2⟩ := q3.cell
  match j, hj with
  | 0, hj => simp only [ceRow, List.getElem?_cons_zero, Option.some.injEq] at hj; subst hj; exact r0
  | 1, hj => simp only [ceRow, List.getElem?_cons_succ, List.getElem?_cons_zero, Option.some.injEq] at hj; subst hj; exact r1
  | 2, hj => simp only [ceRow, List.getElem?_cons_succ, List.getElem?_cons_zero, Option.some.injEq] at hj; subst hj; exact r2
  | j + 3, hj => simp [ceRow] at hj
 case c2 =>
  intro u hu
  simp only [ceRow, List.mem_cons, List.not_mem_nil, or_false] at hu
  rcases hu with rfl | rfl | rfl <;> rfl
 case c5 => have := HW.out; simp; omega
 intro v' w2 own2 gr _
 have hne : v.ownBlock ≠ some L := fun e => by have := (own.lt L e).1; omega
 have hv2 : VarAt L v w2 := by
  unfold VarAt
  rw [gr.block L (by have := HW.out; simp; omega) (fun e => hne e.symm)]
  exact (Below.heap_alloc w1 _ L (by have := HW.out; omega)).trans hv1
 have kept : ∀ g, g < w.heap.size → v.ownBlock ≠ some g → w2.heap[g]? = w.heap[g]? := by
  intro g hg hn
  have h1 := HW.out
  rw [gr.block g (by simp; omega) (fun e => hn e.symm), Below.heap_alloc w1 _ g (by omega), ← HW1.out]
  exact Below.heap_alloc w _ g hg
 have hb2 : Below L w w2 := by
  have h1 := HW.out
  refine Below.grown (w := w1.alloc _) (((b1.mono (by omega)).alloc (by omega) _)) gr (by simp; omega) (fun k hk => ?_)
  have := (own.lt k hk).1
  omega
 rcases own2.2 with ⟨_, h0⟩ | ⟨g, cap, cur, hv', hbg, hrest⟩
 · omega
 · subst hv'
   clear z0 z1 y0 y1 y2
   have z0 := cell_of_one hv2
   have z1 := free_of_one hv2
   have hgl : (Value.slice (some ⟨g, 0, none⟩) (l.length + 1) cap).ownBlock ≠ some L := by
    simp only [Value.ownBlock, ne_eq, Option.some.injEq]
    omega
   clear hrest
   go_wp2_with fail
   go_ret
   refine ⟨rfl, _, one_setCell hv2, ?_, ?_, below_set hb2 (Nat.le_refl _) 0 _⟩
   · rw [rowOf_snoc, List.length_append]
     exact ownsRow_setCell_other own2 (a := ⟨L, 0, none⟩) hgl _
   · intro k hk hkL hkn
     exact (Below.heap_setCell _ _ _ _ (fun e => hkL (by simpa using e))).trans (kept k hk hkn)
end Go.Proofs.YtoglloafpnopaaaGreat
