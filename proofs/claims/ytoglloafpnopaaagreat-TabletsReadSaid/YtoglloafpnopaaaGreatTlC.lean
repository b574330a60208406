/- tablets' Get. -/
import Derived.Test.YtoglloafpnopaaaGreatTlB
set_option linter.unusedSimpArgs false
set_option linter.unusedVariables false
namespace Go.Proofs.YtoglloafpnopaaaGreat
set_option maxRecDepth 16000
open Go.RowKit Spoor
set_option maxHeartbeats 4000000 in
theorem getMNil_any (key : List UInt8) (w : World) (hk : key.length ≤ 140737488351232) :
 Calls Tryz.prog 53 #[.pointer none, .string ⟨key.toArray⟩] w fun e w' => e = .returned (ceV none) ∧ Below w.heap.size w w' := by
 have b1 := (Below.refl w.heap.size w).alloc (Nat.le_refl _) (boxC Ce.zero)
 have q1 := CeAt.boxed Ce.zero w
 unfold boxC at b1 q1
 simp only [Ce.zero] at b1 q1
 have q1 : CeAt w.heap.size Ce.zero (w.alloc (.cells #[.string ⟨#[]⟩, .int .i64 0, .string ⟨#[]⟩] 38)) := q1
 have cc := rangeMNil_any key (key ++ [0]) (w.alloc (.cells #[.string ⟨#[]⟩, .int .i64 0, .string ⟨#[]⟩] 38))
 rw [← bytes_snoc] at cc
 have CC := Lib.hid cc
 have hk2 : (⟨key.toArray⟩ : ByteArray).size ≤ 140737488351232 := by show key.toArray.size ≤ _; simpa using hk
 unfold ceV ceVal
 clear cc
 go_enter Tryz.func53, Tryz.ntmps53
 go_wp2_with fail
 refine CC.out.mono ?_
 rintro e w1 ⟨rfl, hb⟩
 have q2 := q1.later hb q1.lt
 have B := btP b1 hb
 have lt2 := q2.lt
 have HB := Lib.hid B
 obtain ⟨y0, y1, y2⟩ := q2.cell
 obtain ⟨z0, z1, z2⟩ := q2.frees
 clear CC q1 b1 hb B
 go_wp2_with fail
 obtain ⟨q3, b3⟩ := q2.all HB.out (Nat.le_refl _) Ce.zero
 unfold Ce.zero at q3 b3
 generalize ((World.setCell _ _ _).setCell _ _).setCell _ _ = w9 at *
 clear y0 y1 y2 z0 z1 z2
 obtain ⟨y0, y1, y2⟩ := q3.cell
 refine bodyPost_ret (v := .tuple #[.agg #[.string ⟨#[]⟩, .int .i64 0, .string ⟨#[]⟩], .bool false]) (by simp [results, Tryz.results53, go_sem, *]) rfl ⟨?_, b3⟩
 rfl
theorem memGet_any (M : Option Addr) (L : List Ce) (key : List UInt8) (W : World) (h : MemPtr M L W) (hL : RowOk L) (hk : key.length ≤ 140737488351232) :
 Calls Tryz.prog 53 #[.pointer M, .string ⟨key.toArray⟩] W fun e w' => e = .returned (ceV (findC L key)) ∧ Below W.heap.size W w' := by
 rcases h with ⟨rfl, rfl⟩ | ⟨p, fs, rfl, h⟩
 · exact getMNil_any key W hk
 · exact getM_any p L fs key W h (by have := hL.1; omega) hk
theorem tabGet_any (P : Option Addr) (r : List Ce) (key : List UInt8) (W : World) (h : TabPtr P r W) (hL : RowOk r) (hk : key.length ≤ 140737488351232) :
 Calls Tryz.prog 54 #[.pointer P, .string ⟨key.toArray⟩] W fun e w' => e = .returned (ceV (findC r key)) ∧ Below W.heap.size W w' := by
 rcases h with ⟨rfl, rfl⟩ | ⟨t, gs, rfl, h, rfl, h2, h3⟩
 · exact getNil_any key W hk
 · exact getT_any t gs key W h hL.rise h2 h3 (by have := hL.1; omega) hk
def okC : Option Ce → Bool
 | some _ => true
 | none => false
def getC (b : Option Ce) : Ce := b.getD Ce.zero
theorem ceV_eq (b : Option Ce) : ceV b = .tuple #[.agg #[.string ⟨(getC b).k.toArray⟩, .int .i64 (getC b).q, .string ⟨(getC b).v.toArray⟩], .bool (okC b)] := by cases b <;> rfl
set_option maxRecDepth 100000 in
set_option maxHeartbeats 4000000 in
theorem tabGet (F T key : List UInt8) (M TA : Option Addr) (n cap : Nat) (L : List Ce) (Ts : List (List Ce)) (w : World) (hM : MemPtr M L w) (hT : TabsAt TA n cap Ts w) (hn : n ≤ 10) (hR : ∀ r ∈ L :: Ts, RowOk r) (hk : key.length ≤ 140737488351232) :
 Calls Tryz.prog 20 #[tabVal F T M TA n cap, .string ⟨key.toArray⟩] w fun e w' => e = .returned (ceV (getT F T (L :: Ts) key)) ∧ Below w.heap.size w w' := by
 obtain ⟨W, q, hW, hq, hqb, nb, c0, c1, c2, c3, -⟩ := tab_box F T M TA n cap w
 obtain ⟨r0, hr0⟩ : ∃ r0, W.heap.size = r0 := ⟨_, rfl⟩
 obtain ⟨W1, hW1, hz1, nb1, z0, z1, z2, zf0, zf1, zf2⟩ := new_cell W r0 hr0
 have hqb1 := (nb1.block q (Go.ltA hqb)).trans hqb
 have d0 : W1.cell? ⟨q, 0, none⟩ = some (.string ⟨F.toArray⟩) := by rw [cell_of_row W1 q _ _ _ _ hqb1]; rfl
 have d1 : W1.cell? ⟨q, 1, none⟩ = some (.string ⟨T.toArray⟩) := by rw [cell_of_row W1 q _ _ _ _ hqb1]; rfl
 have d2 : W1.cell? ⟨q, 2, none⟩ = some (.pointer M) := by rw [cell_of_row W1 q _ _ _ _ hqb1]; rfl
 have d3 : W1.cell? ⟨q, 3, none⟩ = some (.slice TA n cap) := by rw [cell_of_row W1 q _ _ _ _ hqb1]; rfl
 have B1 : Below w.heap.size w W1 := nb.trans (nb1.mono nb.size)
 have CH := Lib.hid (tabHas F T key M TA n cap W1)
 have hrl : w.heap.size ≤ r0 := by rw [← hr0]; exact nb.size
 have HH := Lib.hid (And.intro hM (And.intro hT (And.intro hR (And.intro B1 (And.intro hqb1 (And.intro hz1 hrl))))))
 unfold tabVal at CH ⊢
 unfold getT
 clear hM hT hR nb hqb nb1 hz1 hqb1 B1 hrl
 cases hin : inTab F T key with
 | false =>
   rw [hin] at CH
   simp only [Bool.false_eq_true, if_false, ceV, ceVal, Ce.zero]
   go_enter Tryz.func20, Tryz.ntmps20
   go_wp2_with fail
   refine CH.out.mono ?_
   rintro e w2 ⟨rfl, b2⟩
   have q2 : CeAt r0 Ce.zero w2 := (show CeAt r0 Ce.zero W1 from HH.out.2.2.2.2.2.1).later b2 (Go.ltA HH.out.2.2.2.2.2.1)
   have HB := Lib.hid (HH.out.2.2.2.1.trans (b2.mono HH.out.2.2.2.1.size))
   obtain ⟨y0, y1, y2⟩ := q2.cell
   obtain ⟨x0, x1, x2⟩ := q2.frees
   clear b2 CH
   go_wp2_with fail
   obtain ⟨q3, b3⟩ := q2.all HB.out HH.out.2.2.2.2.2.2 Ce.zero
   unfold Ce.zero at q3 b3
   generalize ((World.setCell _ _ _).setCell _ _).setCell _ _ = w9 at *
   clear y0 y1 y2 z0 z1 z2 x0 x1 x2
   obtain ⟨y0, y1, y2⟩ := q3.cell
   refine bodyPost_ret (v := .tuple #[.agg #[.string ⟨#[]⟩, .int .i64 0, .string ⟨#[]⟩], .bool false]) (by simp [results, Tryz.results20, go_sem, *]) rfl ⟨?_, b3⟩
   rfl
 | true =>
   rw [hin] at CH
   simp only [if_true]
   have hbe : bestR (L :: Ts) key = getRows (L :: Ts) key none := (getRows_eq none fun r hr => (HH.out.2.2.1 r hr).rise).symm
   obtain ⟨bb, hbb⟩ : ∃ bb, getRows (L :: Ts) key none = bb := ⟨_, rfl⟩
   rw [hbe, hbb, ceV_eq]
   obtain ⟨cc, hcc⟩ : ∃ cc, getC bb = cc := ⟨_, rfl⟩
   obtain ⟨oo, hoo⟩ : ∃ oo, okC bb = oo := ⟨_, rfl⟩
   rw [hcc, hoo]
   have HBE := Lib.hid (And.intro hbb (And.intro hcc hoo))
   clear hbe hbb hcc hoo
   go_enter Tryz.func20, Tryz.ntmps20
   go_wp2_with fail
   refine CH.out.mono ?_
   rintro e w2 ⟨rfl, b2⟩
   have hq2 := (b2.block q (Go.ltA HH.out.2.2.2.2.1)).trans HH.out.2.2.2.2.1
   have f2 : w2.cell? ⟨q, 2, none⟩ = some (.pointer M) := by rw [cell_of_row w2 q _ _ _ _ hq2]; rfl
   have B2 := HH.out.2.2.2.1.trans (b2.mono HH.out.2.2.2.1.size)
   have cg := memGet_any M L key w2 (HH.out.1.later B2) (HH.out.2.2.1 L List.mem_cons_self) hk
   rw [ceV_eq] at cg
   have CG := Lib.hid cg
   have Z2 : CeAt r0 Ce.zero w2 := (show CeAt r0 Ce.zero W1 from HH.out.2.2.2.2.2.1).later b2 (Go.ltA HH.out.2.2.2.2.2.1)
   obtain ⟨b0, hb0⟩ : ∃ b0, findC L key = b0 := ⟨_, rfl⟩
   rw [hb0] at CG
   obtain ⟨d, hd⟩ : ∃ d, getC b0 = d := ⟨_, rfl⟩
   rw [hd] at CG
   have H2 := Lib.hid (And.intro hq2 (And.intro B2 (And.intro Z2 (And.intro hb0 hd))))
   clear cg hq2 B2 Z2 b2 hb0 hd CH
   go_wp2_with (go_at_call 53; refine CG.out.mono ?_; rintro e w3 ⟨rfl, b3⟩; obtain ⟨bq, hbq⟩ : ∃ bq, w3.heap.size = bq := ⟨_, rfl⟩; obtain ⟨w4, hw4, hz4, nb4, x0, x1, x2, xf0, xf1, xf2⟩ := new_cell w3 bq hbq; have hs5 := set3 (a' := .string ⟨d.k.toArray⟩) (b' := .int .i64 d.q) (c' := .string ⟨d.v.toArray⟩) hz4; have nb5 : Below w2.heap.size w2 (((w4.setCell ⟨bq, 0, none⟩ (.string ⟨d.k.toArray⟩)).setCell ⟨bq, 1, none⟩ (.int .i64 d.q)).setCell ⟨bq, 2, none⟩ (.string ⟨d.v.toArray⟩)) := b3.trans ((below_set (below_set (below_set nb4 (by omega) 0 _) (by omega) 1 _) (by omega) 2 _).mono b3.size); obtain ⟨w5, hw5⟩ : ∃ w5, ((w4.setCell ⟨bq, 0, none⟩ (.string ⟨d.k.toArray⟩)).setCell ⟨bq, 1, none⟩ (.int .i64 d.q)).setCell ⟨bq, 2, none⟩ (.string ⟨d.v.toArray⟩) = w5 := ⟨_, rfl⟩; rw [hw5] at hs5 nb5; have f3 : w5.cell? ⟨q, 3, none⟩ = some (.slice TA n cap) := (by rw [cell_of_row w5 q _ _ _ _ ((nb5.block q (Go.ltA H2.out.1)).trans H2.out.1)]; rfl))
   have B5 := H2.out.2.1.trans (nb5.mono H2.out.2.1.size)
   have Z5 := H2.out.2.2.1.later nb5 H2.out.2.2.1.lt
   have hbl : w.heap.size ≤ bq := by have := H2.out.2.1.size; have := b3.size; omega
   have H5 := Lib.hid (show getRows ((L :: Ts).take 1) key none = b0 from by
    show (match findC L key with | none => none | some c => updC key none c) = b0
    rw [H2.out.2.2.2.1]
    cases hb : b0 with
    | none => rfl
    | some c =>
      have hck : c.k = key := findC_key (H2.out.2.2.2.1.trans hb)
      simp [updC, hck])
   have HC5 := Lib.hid (And.intro (show CeAt bq (getC b0) w5 by rw [H2.out.2.2.2.2]; exact hs5) (And.intro B5 Z5))
   have HBL := Lib.hid hbl
   have hrb : r0 ≠ bq := by have := HH.out.2.2.2.2.2.1; have h1 := (Go.ltA this); have h2 := H2.out.2.2.1.lt; have := b3.size; omega
   clear hs5 nb5 B5 Z5 hz4 nb4 b3 x0 x1 x2 xf0 xf1 xf2 hw4 hw5 CG hbl z0 z1 z2 zf0 zf1 zf2 d0 d1 d2 d3 c0 c1 c2 c3 f2
   go_wp2_with fail
   go_loopw [27, 7] (fun iv ov wr => ∃ (k : Nat) (b : Option Ce), k ≤ n ∧ iv = .int .i64 k ∧ ov = .bool (okC b) ∧ Hid (getRows ((L :: Ts).take (k + 1)) key none = b ∧ CeAt bq (getC b) wr ∧ Below w.heap.size w wr ∧ CeAt r0 Ce.zero wr)) (fun iv _ _ => n - (intOf iv).toNat)
   case atStart => exact ⟨0, b0, by omega, rfl, rfl, Lib.hid ⟨H5.out, HC5.out.1, HC5.out.2.1, HC5.out.2.2⟩⟩
   case round =>
    obtain ⟨k, b, hk2, rfl, rfl, HI⟩ := hrel
    by_cases hkn : k < n
    · obtain ⟨h1, h2, h3, h4⟩ := HH.out.2.1.later HI.out.2.2.1
      obtain ⟨g, o, P, rfl, hg, hc, hp⟩ := h4 k hkn
      have hkl : k < Ts.length := by omega
      have hgd : Ts.getD k [] = Ts[k] := by simp [List.getD, hkl]
      have hm : Ts.getD k [] ∈ L :: Ts := by rw [hgd]; exact List.mem_cons_of_mem _ (List.getElem_mem _)
      have cg := tabGet_any P (Ts.getD k []) key wr hp (HH.out.2.2.1 _ hm) hk
      rw [ceV_eq] at cg
      obtain ⟨f, hf⟩ : ∃ f, findC (Ts.getD k []) key = f := ⟨_, rfl⟩
      rw [hf] at cg
      have hst : getRows ((L :: Ts).take (k + 1 + 1)) key none = orU key b f := by
       rw [List.take_add_one, show (L :: Ts)[k + 1]?.toList = [Ts.getD k []] by simp [List.getD, hkl], getRows_snoc, hf, HI.out.1]
      have hfk : ∀ c, f = some c → c.k = key := fun c e => findC_key (hf.trans e)
      obtain ⟨c, hcc⟩ : ∃ c, getC f = c := ⟨_, rfl⟩
      rw [hcc] at cg
      have CG := Lib.hid cg
      have HST := Lib.hid (And.intro hst (And.intro hfk hcc))
      have hki : (k : Int) < (n : Int) := by omega
      clear h1 h2 h3 h4 hp hm cg hgd hf hst hfk hcc
      rcases f with _ | c0
      · skip
        go_wp2_with (go_at_call 54; refine CG.out.mono ?_; rintro e w6 ⟨rfl, b6⟩; obtain ⟨b10, hb10⟩ : ∃ b10, w6.heap.size = b10 := ⟨_, rfl⟩; obtain ⟨w7, hw7, hz7, nb7, x0, x1, x2, xf0, xf1, xf2⟩ := new_cell w6 b10 hb10; have hs8 := set3 (a' := .string ⟨c.k.toArray⟩) (b' := .int .i64 c.q) (c' := .string ⟨c.v.toArray⟩) hz7; have nb8 : Below wr.heap.size wr (((w7.setCell ⟨b10, 0, none⟩ (.string ⟨c.k.toArray⟩)).setCell ⟨b10, 1, none⟩ (.int .i64 c.q)).setCell ⟨b10, 2, none⟩ (.string ⟨c.v.toArray⟩)) := b6.trans ((below_set (below_set (below_set nb7 (by omega) 0 _) (by omega) 1 _) (by omega) 2 _).mono b6.size); obtain ⟨w8, hw8⟩ : ∃ w8, ((w7.setCell ⟨b10, 0, none⟩ (.string ⟨c.k.toArray⟩)).setCell ⟨b10, 1, none⟩ (.int .i64 c.q)).setCell ⟨b10, 2, none⟩ (.string ⟨c.v.toArray⟩) = w8 := ⟨_, rfl⟩; rw [hw8] at hs8 nb8; obtain ⟨y0, y1, y2⟩ := CeAt.cell (show CeAt b10 c w8 from hs8); obtain ⟨u0, u1, u2⟩ := (HI.out.2.1.later nb8 HI.out.2.1.lt).cell; obtain ⟨v0, v1, v2⟩ := (HI.out.2.1.later nb8 HI.out.2.1.lt).frees; have HQ8 := Lib.hid (And.intro (HI.out.2.1.later nb8 HI.out.2.1.lt) (And.intro (HI.out.2.2.1.trans (nb8.mono HI.out.2.2.1.size)) (HI.out.2.2.2.later nb8 HI.out.2.2.2.lt))); clear hs8 nb8 hz7 nb7 b6)
        go_roundw
        case rel => exact ⟨k + 1, b, by omega, by simp <;> omega, rfl, Lib.hid ⟨HST.out.1.trans (rfl), HQ8.out⟩⟩
        case measure => simp [intOf]; omega
      · rcases b with _ | d
        · skip
          go_wp2_with (go_at_call 54; refine CG.out.mono ?_; rintro e w6 ⟨rfl, b6⟩; obtain ⟨b10, hb10⟩ : ∃ b10, w6.heap.size = b10 := ⟨_, rfl⟩; obtain ⟨w7, hw7, hz7, nb7, x0, x1, x2, xf0, xf1, xf2⟩ := new_cell w6 b10 hb10; have hs8 := set3 (a' := .string ⟨c.k.toArray⟩) (b' := .int .i64 c.q) (c' := .string ⟨c.v.toArray⟩) hz7; have nb8 : Below wr.heap.size wr (((w7.setCell ⟨b10, 0, none⟩ (.string ⟨c.k.toArray⟩)).setCell ⟨b10, 1, none⟩ (.int .i64 c.q)).setCell ⟨b10, 2, none⟩ (.string ⟨c.v.toArray⟩)) := b6.trans ((below_set (below_set (below_set nb7 (by omega) 0 _) (by omega) 1 _) (by omega) 2 _).mono b6.size); obtain ⟨w8, hw8⟩ : ∃ w8, ((w7.setCell ⟨b10, 0, none⟩ (.string ⟨c.k.toArray⟩)).setCell ⟨b10, 1, none⟩ (.int .i64 c.q)).setCell ⟨b10, 2, none⟩ (.string ⟨c.v.toArray⟩) = w8 := ⟨_, rfl⟩; rw [hw8] at hs8 nb8; obtain ⟨y0, y1, y2⟩ := CeAt.cell (show CeAt b10 c w8 from hs8); obtain ⟨u0, u1, u2⟩ := (HI.out.2.1.later nb8 HI.out.2.1.lt).cell; obtain ⟨v0, v1, v2⟩ := (HI.out.2.1.later nb8 HI.out.2.1.lt).frees; have HQ8 := Lib.hid (And.intro (HI.out.2.1.later nb8 HI.out.2.1.lt) (And.intro (HI.out.2.2.1.trans (nb8.mono HI.out.2.2.1.size)) (HI.out.2.2.2.later nb8 HI.out.2.2.2.lt))); clear hs8 nb8 hz7 nb7 b6)
          go_roundw
          case rel =>
           obtain ⟨q9, b9⟩ := HQ8.out.1.all HQ8.out.2.1 HBL.out c
           have hcc : c0 = c := HST.out.2.2
           refine ⟨k + 1, some c, by omega, by simp <;> omega, rfl, Lib.hid ⟨HST.out.1.trans (by rw [← hcc]; simp [orU, updC, HST.out.2.1 c0 rfl]), q9, b9, ?_⟩⟩
           exact (Below.heap_setCell _ ⟨bq, 2, none⟩ _ r0 hrb).trans ((Below.heap_setCell _ ⟨bq, 1, none⟩ _ r0 hrb).trans ((Below.heap_setCell _ ⟨bq, 0, none⟩ _ r0 hrb).trans HQ8.out.2.2))
          case measure => simp [intOf]; omega
        · by_cases hq' : (getC (some d)).q < c.q
          · skip
            go_wp2_with (go_at_call 54; refine CG.out.mono ?_; rintro e w6 ⟨rfl, b6⟩; obtain ⟨b10, hb10⟩ : ∃ b10, w6.heap.size = b10 := ⟨_, rfl⟩; obtain ⟨w7, hw7, hz7, nb7, x0, x1, x2, xf0, xf1, xf2⟩ := new_cell w6 b10 hb10; have hs8 := set3 (a' := .string ⟨c.k.toArray⟩) (b' := .int .i64 c.q) (c' := .string ⟨c.v.toArray⟩) hz7; have nb8 : Below wr.heap.size wr (((w7.setCell ⟨b10, 0, none⟩ (.string ⟨c.k.toArray⟩)).setCell ⟨b10, 1, none⟩ (.int .i64 c.q)).setCell ⟨b10, 2, none⟩ (.string ⟨c.v.toArray⟩)) := b6.trans ((below_set (below_set (below_set nb7 (by omega) 0 _) (by omega) 1 _) (by omega) 2 _).mono b6.size); obtain ⟨w8, hw8⟩ : ∃ w8, ((w7.setCell ⟨b10, 0, none⟩ (.string ⟨c.k.toArray⟩)).setCell ⟨b10, 1, none⟩ (.int .i64 c.q)).setCell ⟨b10, 2, none⟩ (.string ⟨c.v.toArray⟩) = w8 := ⟨_, rfl⟩; rw [hw8] at hs8 nb8; obtain ⟨y0, y1, y2⟩ := CeAt.cell (show CeAt b10 c w8 from hs8); obtain ⟨u0, u1, u2⟩ := (HI.out.2.1.later nb8 HI.out.2.1.lt).cell; obtain ⟨v0, v1, v2⟩ := (HI.out.2.1.later nb8 HI.out.2.1.lt).frees; have HQ8 := Lib.hid (And.intro (HI.out.2.1.later nb8 HI.out.2.1.lt) (And.intro (HI.out.2.2.1.trans (nb8.mono HI.out.2.2.1.size)) (HI.out.2.2.2.later nb8 HI.out.2.2.2.lt))); clear hs8 nb8 hz7 nb7 b6)
            go_roundw
            case rel =>
             obtain ⟨q9, b9⟩ := HQ8.out.1.all HQ8.out.2.1 HBL.out c
             have hcc : c0 = c := HST.out.2.2
             refine ⟨k + 1, some c, by omega, by simp <;> omega, rfl, Lib.hid ⟨HST.out.1.trans (by rw [← hcc]; have hq2 : d.q < c0.q := (by rw [hcc]; exact hq'); simp [orU, updC, HST.out.2.1 c0 rfl, hq2]), q9, b9, ?_⟩⟩
             exact (Below.heap_setCell _ ⟨bq, 2, none⟩ _ r0 hrb).trans ((Below.heap_setCell _ ⟨bq, 1, none⟩ _ r0 hrb).trans ((Below.heap_setCell _ ⟨bq, 0, none⟩ _ r0 hrb).trans HQ8.out.2.2))
            case measure => simp [intOf]; omega
          · skip
            go_wp2_with (go_at_call 54; refine CG.out.mono ?_; rintro e w6 ⟨rfl, b6⟩; obtain ⟨b10, hb10⟩ : ∃ b10, w6.heap.size = b10 := ⟨_, rfl⟩; obtain ⟨w7, hw7, hz7, nb7, x0, x1, x2, xf0, xf1, xf2⟩ := new_cell w6 b10 hb10; have hs8 := set3 (a' := .string ⟨c.k.toArray⟩) (b' := .int .i64 c.q) (c' := .string ⟨c.v.toArray⟩) hz7; have nb8 : Below wr.heap.size wr (((w7.setCell ⟨b10, 0, none⟩ (.string ⟨c.k.toArray⟩)).setCell ⟨b10, 1, none⟩ (.int .i64 c.q)).setCell ⟨b10, 2, none⟩ (.string ⟨c.v.toArray⟩)) := b6.trans ((below_set (below_set (below_set nb7 (by omega) 0 _) (by omega) 1 _) (by omega) 2 _).mono b6.size); obtain ⟨w8, hw8⟩ : ∃ w8, ((w7.setCell ⟨b10, 0, none⟩ (.string ⟨c.k.toArray⟩)).setCell ⟨b10, 1, none⟩ (.int .i64 c.q)).setCell ⟨b10, 2, none⟩ (.string ⟨c.v.toArray⟩) = w8 := ⟨_, rfl⟩; rw [hw8] at hs8 nb8; obtain ⟨y0, y1, y2⟩ := CeAt.cell (show CeAt b10 c w8 from hs8); obtain ⟨u0, u1, u2⟩ := (HI.out.2.1.later nb8 HI.out.2.1.lt).cell; obtain ⟨v0, v1, v2⟩ := (HI.out.2.1.later nb8 HI.out.2.1.lt).frees; have HQ8 := Lib.hid (And.intro (HI.out.2.1.later nb8 HI.out.2.1.lt) (And.intro (HI.out.2.2.1.trans (nb8.mono HI.out.2.2.1.size)) (HI.out.2.2.2.later nb8 HI.out.2.2.2.lt))); clear hs8 nb8 hz7 nb7 b6)
            go_roundw
            case rel => exact ⟨k + 1, some d, by omega, by simp <;> omega, rfl, Lib.hid ⟨HST.out.1.trans (by have hcc : c0 = c := HST.out.2.2; exact updC_keep rfl fun _ => by rw [hcc]; exact hq'), HQ8.out⟩⟩
            case measure => simp [intOf]; omega
    · obtain rfl : k = n := by omega
      have hl := HH.out.2.1.1
      have htk : b = bb := by rw [← HI.out.1, ← HBE.out.1, List.take_of_length_le (by rw [List.length_cons]; omega)]
      subst htk
      have qb := HI.out.2.1
      have q0 := HI.out.2.2.2
      rw [HBE.out.2.1] at qb
      rw [HBE.out.2.2]
      obtain ⟨y0, y1, y2⟩ := qb.cell
      obtain ⟨z0, z1, z2⟩ := q0.cell
      obtain ⟨x0, x1, x2⟩ := q0.frees
      have HB := Lib.hid HI.out.2.2.1
      have HQ0 := Lib.hid q0
      clear qb q0
      go_wp2_with fail
      obtain ⟨q3, b3⟩ := HQ0.out.all HB.out HH.out.2.2.2.2.2.2 cc
      generalize ((World.setCell _ _ _).setCell _ _).setCell _ _ = w9 at *
      clear y0 y1 y2 z0 z1 z2 x0 x1 x2
      obtain ⟨y0, y1, y2⟩ := q3.cell
      refine bodyPost_ret (v := .tuple #[.agg #[.string ⟨cc.k.toArray⟩, .int .i64 cc.q, .string ⟨cc.v.toArray⟩], .bool oo]) (by simp [results, Tryz.results20, go_sem, *]) rfl ⟨?_, b3⟩
      rfl
end Go.Proofs.YtoglloafpnopaaaGreat
