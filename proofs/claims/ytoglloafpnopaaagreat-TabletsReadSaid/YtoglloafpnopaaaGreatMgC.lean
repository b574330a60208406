/- A heap of rows in memory: which of two is less. A heap of rows in memory: two are swapped. A heap of rows in memory: one is put behind the others. A heap of rows in memory: one is put behind the others. A heap of rows in memory: the last one is taken. -/
import Derived.Test.YtoglloafpnopaaaGreatTC
import Derived.Test.YtoglloafpnopaaaGreatTF
import Derived.Test.YtoglloafpnopaaaGreatMA
import Derived.Test.YtoglloafpnopaaaGreatMgA
import Derived.Test.YtoglloafpnopaaaGreatMgB
set_option linter.unusedSimpArgs false
set_option linter.unusedVariables false
namespace Go.Proofs.YtoglloafpnopaaaGreat
set_option maxRecDepth 16000
open Go.RowKit Spoor
theorem MonoR.pair (r s : Int) : MonoR (fun v W => ∃ x, v = .slice (some ⟨x, 0, none⟩) 2 2 ∧ W.cell? ⟨x, 0, none⟩ = some (.int .i64 r) ∧ W.cell? ⟨x, 1, none⟩ = some (.int .i64 s)) := fun v w w' hb ⟨x, h1, h2, h3⟩ => by
 have hx : x < w.heap.size := by
  cases h : w.heap[x]? with
  | none => simp [World.cell?, h] at h2
  | some o => exact (Go.ltA h)
 exact ⟨x, h1, (hb.cell (p := ⟨x, 0, none⟩) hx).trans h2, (hb.cell (p := ⟨x, 1, none⟩) hx).trans h3⟩
def SlC (v : Value) (l : List Ce) (W : World) : Prop := SlAt v l W ∧ ∀ b, v.ownBlock = some b → ∃ cur, W.heap[b]? = some (.cells cur 38 (0, 0))
theorem SlC.later {v : Value} {l : List Ce} {W W' : World} (h : SlC v l W) (hb : Below W.heap.size W W') : SlC v l W' :=
 ⟨h.1.later hb, fun b e => by obtain ⟨cur, hc⟩ := h.2 b e; exact ⟨cur, (hb.block b (Go.ltA hc)).trans hc⟩⟩
structure RwAt (g cap : Nat) (H : List Rw) (vs : List Value) (W : World) : Prop where
 len : vs.length = H.length
 blk : ∃ cur : Array Value, W.heap[g]? = some (.cells cur 176 (0, 0)) ∧ cur.size = cap * 2 ∧ ∀ i, i < H.length → cur[i * 2]? = some (vs.getD i undef) ∧ cur[i * 2 + 1]? = some (.int .i64 ((H.getD i rz).2 : Int))
 le : H.length ≤ cap
 max : cap ≤ maxLen
 sl : ∀ i, i < H.length → SlC (vs.getD i undef) (H.getD i rz).1 W
theorem RwAt.later {g cap : Nat} {H : List Rw} {vs : List Value} {W W' : World} (h : RwAt g cap H vs W) (hb : Below W.heap.size W W') : RwAt g cap H vs W' := by
 obtain ⟨cur, h1, h2, h3⟩ := h.blk
 exact ⟨h.len, ⟨cur, (hb.block g (Go.ltA h1)).trans h1, h2, h3⟩, h.le, h.max, fun i hi => (h.sl i hi).later hb⟩
theorem RwAt.cell {g cap : Nat} {H : List Rw} {vs : List Value} {W : World} (h : RwAt g cap H vs W) {i : Nat} (hi : i < H.length) : W.cell? ⟨g, i * 2, none⟩ = some (vs.getD i undef) ∧ W.cell? ⟨g, i * 2 + 1, none⟩ = some (.int .i64 ((H.getD i rz).2 : Int)) := by
 obtain ⟨cur, h1, h2, h3⟩ := h.blk
 obtain ⟨e1, e2⟩ := h3 i hi
 exact ⟨by rw [cell_of_row W g _ _ _ _ h1]; exact e1, by rw [cell_of_row W g _ _ _ _ h1]; exact e2⟩
theorem rless_cmp (a b : Rw) (p q : Nat) (hp : a.2 = p) (hq : b.2 = q) : decide ((if cmpCe (hdC a) (hdC b) = 0 then Lib.compareInt (p : Int) (q : Int) else cmpCe (hdC a) (hdC b)) < 0) = rless a b := by
 subst hp hq
 unfold rless
 have h1 := cmpCe_less (hdC a) (hdC b)
 have h2 := cmpCe_less (hdC b) (hdC a)
 have hz : cmpCe (hdC a) (hdC b) = 0 ↔ eqC (hdC a) (hdC b) = true := by
  unfold cmpCe cmpT eqC Lib.compareInt
  rcases bl_cases (hdC a).k (hdC b).k with ⟨e1, e2, e3, _⟩ | ⟨e1, e2, e3⟩ | ⟨e1, e2, e3, _⟩
  · rw [e1, e3]; simp
  · rw [e3]
    have e5 : Op.bytesLess (hdC b).k (hdC b).k = false := bl_irrefl _
    rw [e5]
    simp only [Bool.false_eq_true, if_false, beq_self_eq_true, Bool.true_and, decide_eq_true_eq, if_true]
    by_cases x1 : (hdC b).q < (hdC a).q
    · simp only [x1, if_true]; omega
    · by_cases x2 : (hdC b).q > (hdC a).q
      · simp [x1, x2]; omega
      · simp [x1, x2]; omega
  · rw [e1, e2, e3]; simp
 rcases ce_tri (hdC a) (hdC b) with ⟨t1, t2, t3, t4⟩ | ⟨t1, t2, t3, t4⟩ | ⟨t1, t2, t3, t4⟩
 · rw [t1] at h1
   have hn : ¬ 0 ≤ cmpCe (hdC a) (hdC b) := by simpa using h1
   rw [if_neg (by omega), t1, decide_eq_true (by omega)]
   rfl
 · have h0 := hz.2 t3
   rw [if_pos h0, t1, t3]
   unfold Lib.compareInt
   by_cases x1 : a.2 < b.2
   · simp [x1]
   · by_cases x2 : (a.2 : Int) > (b.2 : Int)
     · have : ¬ (a.2 : Int) < (b.2 : Int) := by omega
       simp [x1, this, x2]
     · have : ¬ (a.2 : Int) < (b.2 : Int) := by omega
       simp [x1, this, x2]
 · rw [t1] at h1
   have hn : 0 ≤ cmpCe (hdC a) (hdC b) := by simpa using h1
   have h0 : ¬ cmpCe (hdC a) (hdC b) = 0 := fun e => by rw [hz.1 e] at t3; cases t3
   rw [if_neg h0, t1, t3, decide_eq_false (by omega)]
   rfl
theorem orOneB (g : Nat) (a b R : Int) (w : World) (hR : R = if a = 0 then b else a) (h0 : w.cell? ⟨g, 0, none⟩ = some (.int .i64 a)) (h1 : w.cell? ⟨g, 1, none⟩ = some (.int .i64 b)) :
 Calls Tryz.prog 92 #[.slice (some ⟨g, 0, none⟩) 2 2] w fun e w' => e = .returned (.int .i64 R) ∧ Below w.heap.size w w' :=
 (orOne g a b R w hR h0 h1).mono fun e w' ⟨h, hw⟩ => ⟨h, hw ▸ Below.refl _ _⟩
theorem rowsLen_any (A : Option Addr) (n cap : Nat) (w : World) : Calls Tryz.prog 173 #[.slice A n cap] w fun e w' => e = .returned (.int .i64 n) ∧ w = w' := by
 go_enter Tryz.func173, Tryz.ntmps173
 go_wp2_with fail
 go_ret
 exact ⟨rfl, rfl⟩
set_option maxRecDepth 100000 in
set_option maxHeartbeats 4000000 in
theorem rowsLess_any (g cap i j : Nat) (H : List Rw) (vs : List Value) (w : World) (h : RwAt g cap H vs w) (hi : i < H.length) (hj : j < H.length) (ni : (H.getD i rz).1 ≠ []) (nj : (H.getD j rz).1 ≠ []) :
 Calls Tryz.prog 174 #[.slice (some ⟨g, 0, none⟩) H.length cap, .int .i64 i, .int .i64 j] w fun e w' => e = .returned (.bool (rless (H.getD i rz) (H.getD j rz))) ∧ Below w.heap.size w w' := by
 obtain ⟨n, hn⟩ : ∃ n, H.length = n := ⟨_, rfl⟩
 obtain ⟨x0, x1⟩ := h.cell hi
 obtain ⟨y0, y1⟩ := h.cell hj
 have si := (h.sl i hi).1
 have sj := (h.sl j hj).1
 have hgl : g < w.heap.size := by obtain ⟨cur, h1, -⟩ := h.blk; exact (Go.ltA h1)
 rw [hn] at hi hj ⊢
 obtain ⟨a, ha⟩ : ∃ a, H.getD i rz = a := ⟨_, rfl⟩
 obtain ⟨b, hb⟩ : ∃ b, H.getD j rz = b := ⟨_, rfl⟩
 rw [ha] at x1 si ni ⊢
 rw [hb] at y1 sj nj ⊢
 obtain ⟨A1, c1, hv1, q1, q2, q3⟩ := si
 obtain ⟨A2, c2, hv2, r1, r2, r3⟩ := sj
 obtain ⟨b1, o1, rfl, row1⟩ := q3 (List.length_pos_iff.2 ni)
 obtain ⟨b2, o2, rfl, row2⟩ := r3 (List.length_pos_iff.2 nj)
 rw [hv1] at x0
 rw [hv2] at y0
 obtain ⟨n1, hn1⟩ : ∃ n1, a.1.length = n1 := ⟨_, rfl⟩
 obtain ⟨n2, hn2⟩ : ∃ n2, b.1.length = n2 := ⟨_, rfl⟩
 have hp1 : 0 < n1 := by rw [← hn1]; exact List.length_pos_iff.2 ni
 have hp2 : 0 < n2 := by rw [← hn2]; exact List.length_pos_iff.2 nj
 rw [hn1] at x0
 rw [hn2] at y0
 have hda : hdC a = a.1.getD 0 Ce.zero := by unfold hdC; cases a.1 <;> rfl
 have hdb : hdC b = b.1.getD 0 Ce.zero := by unfold hdC; cases b.1 <;> rfl
 have z1 := row1.cells (i := 0) (List.length_pos_iff.2 ni)
 have z2 := row2.cells (i := 0) (List.length_pos_iff.2 nj)
 rw [← hda] at z1
 rw [← hdb] at z2
 simp only [Nat.zero_mul, Nat.add_zero] at z1 z2
 have hb1 := row1.1
 have hb2 := row2.1
 have HRL := Lib.hid (rless_cmp a b a.2 b.2 rfl rfl)
 obtain ⟨c, hc⟩ : ∃ c, hdC a = c := ⟨_, rfl⟩
 obtain ⟨d, hd⟩ : ∃ d, hdC b = d := ⟨_, rfl⟩
 rw [hc] at z1 HRL
 rw [hd] at z2 HRL
 obtain ⟨p, hp⟩ : ∃ p, a.2 = p := ⟨_, rfl⟩
 obtain ⟨q, hq⟩ : ∃ q, b.2 = q := ⟨_, rfl⟩
 rw [hp] at x1 HRL
 rw [hq] at y1 HRL
 have cc := fun W => compare_any c d W
 have cp := fun W => Tryz.cmp_Compare_int (p : Int) (q : Int) W
 obtain ⟨r, hr⟩ : ∃ r, cmpCe c d = r := ⟨_, rfl⟩
 obtain ⟨s, hs⟩ : ∃ s, Lib.compareInt (p : Int) (q : Int) = s := ⟨_, rfl⟩
 obtain ⟨R, hR⟩ : ∃ R, (if r = 0 then s else r) = R := ⟨_, rfl⟩
 rw [hr] at cc
 rw [hr, hs, hR] at HRL
 unfold ceVal at cc
 have CC := Lib.hid cc
 have HR := Lib.hid hR.symm
 have HF := Lib.hid (fun W (hbw : Below w.drew.heap.size w.drew W) => show (W.cell? ⟨g, i * 2, none⟩ = some (.slice (some ⟨b1, o1, none⟩) n1 c1) ∧ W.cell? ⟨g, i * 2 + 1, none⟩ = some (.int .i64 (p : Int))) ∧ (W.cell? ⟨g, j * 2, none⟩ = some (.slice (some ⟨b2, o2, none⟩) n2 c2) ∧ W.cell? ⟨g, j * 2 + 1, none⟩ = some (.int .i64 (q : Int))) ∧
  (W.cell? ⟨b1, o1, none⟩ = some (.string ⟨c.k.toArray⟩) ∧ W.cell? ⟨b1, o1 + 1, none⟩ = some (.int .i64 c.q) ∧ W.cell? ⟨b1, o1 + 2, none⟩ = some (.string ⟨c.v.toArray⟩)) ∧ (W.cell? ⟨b2, o2, none⟩ = some (.string ⟨d.k.toArray⟩) ∧ W.cell? ⟨b2, o2 + 1, none⟩ = some (.int .i64 d.q) ∧ W.cell? ⟨b2, o2 + 2, none⟩ = some (.string ⟨d.v.toArray⟩)) from by
  have hw := (Below.drew (Below.refl w.heap.size w)).trans hbw
  exact ⟨⟨(hw.cell (p := ⟨g, i * 2, none⟩) hgl).trans x0, (hw.cell (p := ⟨g, i * 2 + 1, none⟩) hgl).trans x1⟩, ⟨(hw.cell (p := ⟨g, j * 2, none⟩) hgl).trans y0, (hw.cell (p := ⟨g, j * 2 + 1, none⟩) hgl).trans y1⟩,
   ⟨(hw.cell (p := ⟨b1, o1, none⟩) hb1).trans z1.1, (hw.cell (p := ⟨b1, o1 + 1, none⟩) hb1).trans z1.2.1, (hw.cell (p := ⟨b1, o1 + 2, none⟩) hb1).trans z1.2.2⟩,
   ⟨(hw.cell (p := ⟨b2, o2, none⟩) hb2).trans z2.1, (hw.cell (p := ⟨b2, o2 + 1, none⟩) hb2).trans z2.2.1, (hw.cell (p := ⟨b2, o2 + 2, none⟩) hb2).trans z2.2.2⟩⟩)
 rw [hs] at cp
 have CP := Lib.hid (fun W => (cp W).mono (R' := fun e w' => e = .returned (.int .i64 s) ∧ Below W.heap.size W w') (by rintro e w' ⟨rfl, rfl⟩; exact ⟨rfl, Below.refl _ _⟩))
 have hii : (i : Int) < (n : Int) := by omega
 have hji : (j : Int) < (n : Int) := by omega
 clear h x0 x1 y0 y1 z1 z2 hda hdb cc cp hr hs hR hc hd hp hq hn1 hn2 hv1 hv2 q1 q2 q3 r1 r2 r3 row1 row2 hb1 hb2 hgl hn ha hb ni nj
 go_enter Tryz.func174, Tryz.ntmps174
 go_wp2_with fail
 refine (wpIn_wide (n := 5)).1 ?_
 refine wpIn_region_rel [[], [], [(0, some 7), (1, some 8)], [(2, some 9)], [(3, some 10)], [(4, some 11)], [(5, some 12)], [], [], [(7, some 14), (8, some 15)], [(9, some 16)], [(10, some 17)], [(11, some 18)], [(12, some 19)], [(6, some 13), (13, some 20)], [], [], [(15, some 22), (16, some 23)], [(17, some 24)], [(18, some 25)], [], [], [(20, some 27), (21, some 28)], [(22, some 29)], [(23, some 30)], [(19, some 26), (24, some 31)], [(14, some 21), (25, some 32)], [(26, some 33)], [(27, some 34)], [(28, some 35)]]
  [fun v _ => v = Value.slice (some ⟨g, 0, none⟩) n cap, fun v _ => v = Value.int .i64 i, fun v _ => v = Value.pointer (some ⟨g, i * 2, none⟩), fun v _ => v = Value.pointer (some ⟨g, i * 2, none⟩), fun v _ => v = Value.slice (some ⟨b1, o1, none⟩) n1 c1, fun v _ => v = Value.pointer (some ⟨b1, o1, none⟩), fun v _ => v = Value.agg #[.string ⟨c.k.toArray⟩, .int .i64 c.q, .string ⟨c.v.toArray⟩], fun v _ => v = Value.slice (some ⟨g, 0, none⟩) n cap, fun v _ => v = Value.int .i64 j, fun v _ => v = Value.pointer (some ⟨g, j * 2, none⟩), fun v _ => v = Value.pointer (some ⟨g, j * 2, none⟩), fun v _ => v = Value.slice (some ⟨b2, o2, none⟩) n2 c2, fun v _ => v = Value.pointer (some ⟨b2, o2, none⟩), fun v _ => v = Value.agg #[.string ⟨d.k.toArray⟩, .int .i64 d.q, .string ⟨d.v.toArray⟩], fun v _ => v = Value.int .i64 r, fun v _ => v = Value.slice (some ⟨g, 0, none⟩) n cap, fun v _ => v = Value.int .i64 i, fun v _ => v = Value.pointer (some ⟨g, i * 2, none⟩), fun v _ => v = Value.pointer (some ⟨g, i * 2 + 1, none⟩), fun v _ => v = Value.int .i64 (p : Int), fun v _ => v = Value.slice (some ⟨g, 0, none⟩) n cap, fun v _ => v = Value.int .i64 j, fun v _ => v = Value.pointer (some ⟨g, j * 2, none⟩), fun v _ => v = Value.pointer (some ⟨g, j * 2 + 1, none⟩), fun v _ => v = Value.int .i64 (q : Int), fun v _ => v = Value.int .i64 s, fun v W => ∃ x, v = .slice (some ⟨x, 0, none⟩) 2 2 ∧ W.cell? ⟨x, 0, none⟩ = some (.int .i64 r) ∧ W.cell? ⟨x, 1, none⟩ = some (.int .i64 s), fun v _ => v = Value.int .i64 R, fun v _ => v = Value.bool (decide (R < 0)), fun v _ => v = Value.bool (decide (R < 0))]
  [(0, some 7), (1, some 8), (2, some 9), (3, some 10), (4, some 11), (5, some 12), (6, some 13), (7, some 14), (8, some 15), (9, some 16), (10, some 17), (11, some 18), (12, some 19), (13, some 20), (14, some 21), (15, some 22), (16, some 23), (17, some 24), (18, some 25), (19, some 26), (20, some 27), (21, some 28), (22, some 29), (23, some 30), (24, some 31), (25, some 32), (26, some 33), (27, some 34), (28, some 35), (29, some 6)] (by kernel_rfl) (by kernel_rfl) (by kernel_rfl) ⟨MonoR.is _, MonoR.is _, MonoR.is _, MonoR.is _, MonoR.is _, MonoR.is _, MonoR.is _, MonoR.is _, MonoR.is _, MonoR.is _, MonoR.is _, MonoR.is _, MonoR.is _, MonoR.is _, MonoR.is _, MonoR.is _, MonoR.is _, MonoR.is _, MonoR.is _, MonoR.is _, MonoR.is _, MonoR.is _, MonoR.is _, MonoR.is _, MonoR.is _, MonoR.is _, MonoR.pair r s, MonoR.is _, MonoR.is _, MonoR.is _, trivial⟩ ?_ ?_
 · refine ⟨?_, ?_⟩
   · intro vs W hb hD K hK
     simp only [fillL, zP, zN, zS, zC, zZ] at hK ⊢
     clear hD
     refine want_yes (by kernel_rfl) ?_
     go_simp
     exact hK _ _ _ rfl (Below.refl _ _) rfl
   refine ⟨?_, ?_⟩
   · intro vs W hb hD K hK
     simp only [fillL, zP, zN, zS, zC, zZ] at hK ⊢
     clear hD
     refine want_yes (by kernel_rfl) ?_
     go_simp
     exact hK _ _ _ rfl (Below.refl _ _) rfl
   refine ⟨?_, ?_⟩
   · intro vs W hb hD K hK
     have h0 : vs 0 = Value.slice (some ⟨g, 0, none⟩) n cap := hD (0, some 7) List.mem_cons_self
     have h1 : vs 1 = Value.int .i64 i := hD (1, some 8) (List.mem_cons_of_mem _ List.mem_cons_self)
     simp only [fillL, zP, zN, zS, zC, zZ, h0, h1] at hK ⊢
     clear hD h0 h1
     refine want_yes (by kernel_rfl) ?_
     go_simp
     exact hK _ _ _ rfl (Below.refl _ _) rfl
   refine ⟨?_, ?_⟩
   · intro vs W hb hD K hK
     have h2 : vs 2 = Value.pointer (some ⟨g, i * 2, none⟩) := hD (2, some 9) List.mem_cons_self
     simp only [fillL, zP, zN, zS, zC, zZ, h2] at hK ⊢
     clear hD h2
     refine want_yes (by kernel_rfl) ?_
     go_simp
     exact hK _ _ _ rfl (Below.refl _ _) rfl
   refine ⟨?_, ?_⟩
   · intro vs W hb hD K hK
     have h3 : vs 3 = Value.pointer (some ⟨g, i * 2, none⟩) := hD (3, some 10) List.mem_cons_self
     simp only [fillL, zP, zN, zS, zC, zZ, h3] at hK ⊢
     clear hD h3
     refine want_yes (by kernel_rfl) ?_
     obtain ⟨⟨x0, x1⟩, ⟨y0, y1⟩, ⟨a0, a1, a2⟩, b0, b1', b2'⟩ := HF.out W hb
     go_simp
     exact hK _ _ _ rfl (Below.refl _ _) rfl
   refine ⟨?_, ?_⟩
   · intro vs W hb hD K hK
     have h4 : vs 4 = Value.slice (some ⟨b1, o1, none⟩) n1 c1 := hD (4, some 11) List.mem_cons_self
     simp only [fillL, zP, zN, zS, zC, zZ, h4] at hK ⊢
     clear hD h4
     refine want_yes (by kernel_rfl) ?_
     go_simp
     exact hK _ _ _ rfl (Below.refl _ _) rfl
   refine ⟨?_, ?_⟩
   · intro vs W hb hD K hK
     have h5 : vs 5 = Value.pointer (some ⟨b1, o1, none⟩) := hD (5, some 12) List.mem_cons_self
     simp only [fillL, zP, zN, zS, zC, zZ, h5] at hK ⊢
     clear hD h5
     refine want_yes (by kernel_rfl) ?_
     obtain ⟨⟨x0, x1⟩, ⟨y0, y1⟩, ⟨a0, a1, a2⟩, b0, b1', b2'⟩ := HF.out W hb
     go_simp
     exact hK _ _ _ rfl (Below.refl _ _) rfl
   refine ⟨?_, ?_⟩
   · intro vs W hb hD K hK
     simp only [fillL, zP, zN, zS, zC, zZ] at hK ⊢
     clear hD
     refine want_yes (by kernel_rfl) ?_
     go_simp
     exact hK _ _ _ rfl (Below.refl _ _) rfl
   refine ⟨?_, ?_⟩
   · intro vs W hb hD K hK
     simp only [fillL, zP, zN, zS, zC, zZ] at hK ⊢
     clear hD
     refine want_yes (by kernel_rfl) ?_
     go_simp
     exact hK _ _ _ rfl (Below.refl _ _) rfl
   refine ⟨?_, ?_⟩
   · intro vs W hb hD K hK
     have h7 : vs 7 = Value.slice (some ⟨g, 0, none⟩) n cap := hD (7, some 14) List.mem_cons_self
     have h8 : vs 8 = Value.int .i64 j := hD (8, some 15) (List.mem_cons_of_mem _ List.mem_cons_self)
     simp only [fillL, zP, zN, zS, zC, zZ, h7, h8] at hK ⊢
     clear hD h7 h8
     refine want_yes (by kernel_rfl) ?_
     go_simp
     exact hK _ _ _ rfl (Below.refl _ _) rfl
   refine ⟨?_, ?_⟩
   · intro vs W hb hD K hK
     have h9 : vs 9 = Value.pointer (some ⟨g, j * 2, none⟩) := hD (9, some 16) List.mem_cons_self
     simp only [fillL, zP, zN, zS, zC, zZ, h9] at hK ⊢
     clear hD h9
     refine want_yes (by kernel_rfl) ?_
     go_simp
     exact hK _ _ _ rfl (Below.refl _ _) rfl
   refine ⟨?_, ?_⟩
   · intro vs W hb hD K hK
     have h10 : vs 10 = Value.pointer (some ⟨g, j * 2, none⟩) := hD (10, some 17) List.mem_cons_self
     simp only [fillL, zP, zN, zS, zC, zZ, h10] at hK ⊢
     clear hD h10
     refine want_yes (by kernel_rfl) ?_
     obtain ⟨⟨x0, x1⟩, ⟨y0, y1⟩, ⟨a0, a1, a2⟩, b0, b1', b2'⟩ := HF.out W hb
     go_simp
     exact hK _ _ _ rfl (Below.refl _ _) rfl
   refine ⟨?_, ?_⟩
   · intro vs W hb hD K hK
     have h11 : vs 11 = Value.slice (some ⟨b2, o2, none⟩) n2 c2 := hD (11, some 18) List.mem_cons_self
     simp only [fillL, zP, zN, zS, zC, zZ, h11] at hK ⊢
     clear hD h11
     refine want_yes (by kernel_rfl) ?_
     go_simp
     exact hK _ _ _ rfl (Below.refl _ _) rfl
   refine ⟨?_, ?_⟩
   · intro vs W hb hD K hK
     have h12 : vs 12 = Value.pointer (some ⟨b2, o2, none⟩) := hD (12, some 19) List.mem_cons_self
     simp only [fillL, zP, zN, zS, zC, zZ, h12] at hK ⊢
     clear hD h12
     refine want_yes (by kernel_rfl) ?_
     obtain ⟨⟨x0, x1⟩, ⟨y0, y1⟩, ⟨a0, a1, a2⟩, b0, b1', b2'⟩ := HF.out W hb
     go_simp
     exact hK _ _ _ rfl (Below.refl _ _) rfl
   refine ⟨?_, ?_⟩
   · intro vs W hb hD K hK
     have h6 : vs 6 = Value.agg #[.string ⟨c.k.toArray⟩, .int .i64 c.q, .string ⟨c.v.toArray⟩] := hD (6, some 13) List.mem_cons_self
     have h13 : vs 13 = Value.agg #[.string ⟨d.k.toArray⟩, .int .i64 d.q, .string ⟨d.v.toArray⟩] := hD (13, some 20) (List.mem_cons_of_mem _ List.mem_cons_self)
     simp only [fillL, zP, zN, zS, zC, zZ, h6, h13] at hK ⊢
     clear hD h6 h13
     refine want_yes (by kernel_rfl) ?_
     go_simp
     refine ⟨trivial, (callsIn_wide.2 (CC.out _)).mono ?_⟩
     rintro e9 wb ⟨rfl, bb⟩
     exact hK _ _ _ rfl bb rfl
   refine ⟨?_, ?_⟩
   · intro vs W hb hD K hK
     simp only [fillL, zP, zN, zS, zC, zZ] at hK ⊢
     clear hD
     refine want_yes (by kernel_rfl) ?_
     go_simp
     exact hK _ _ _ rfl (Below.refl _ _) rfl
   refine ⟨?_, ?_⟩
   · intro vs W hb hD K hK
     simp only [fillL, zP, zN, zS, zC, zZ] at hK ⊢
     clear hD
     refine want_yes (by kernel_rfl) ?_
     go_simp
     exact hK _ _ _ rfl (Below.refl _ _) rfl
   refine ⟨?_, ?_⟩
   · intro vs W hb hD K hK
     have h15 : vs 15 = Value.slice (some ⟨g, 0, none⟩) n cap := hD (15, some 22) List.mem_cons_self
     have h16 : vs 16 = Value.int .i64 i := hD (16, some 23) (List.mem_cons_of_mem _ List.mem_cons_self)
     simp only [fillL, zP, zN, zS, zC, zZ, h15, h16] at hK ⊢
     clear hD h15 h16
     refine want_yes (by kernel_rfl) ?_
     go_simp
     exact hK _ _ _ rfl (Below.refl _ _) rfl
   refine ⟨?_, ?_⟩
   · intro vs W hb hD K hK
     have h17 : vs 17 = Value.pointer (some ⟨g, i * 2, none⟩) := hD (17, some 24) List.mem_cons_self
     simp only [fillL, zP, zN, zS, zC, zZ, h17] at hK ⊢
     clear hD h17
     refine want_yes (by kernel_rfl) ?_
     go_simp
     exact hK _ _ _ rfl (Below.refl _ _) rfl
   refine ⟨?_, ?_⟩
   · intro vs W hb hD K hK
     have h18 : vs 18 = Value.pointer (some ⟨g, i * 2 + 1, none⟩) := hD (18, some 25) List.mem_cons_self
     simp only [fillL, zP, zN, zS, zC, zZ, h18] at hK ⊢
     clear hD h18
     refine want_yes (by kernel_rfl) ?_
     obtain ⟨⟨x0, x1⟩, ⟨y0, y1⟩, ⟨a0, a1, a2⟩, b0, b1', b2'⟩ := HF.out W hb
     go_simp
     exact hK _ _ _ rfl (Below.refl _ _) rfl
   refine ⟨?_, ?_⟩
   · intro vs W hb hD K hK
     simp only [fillL, zP, zN, zS, zC, zZ] at hK ⊢
     clear hD
     refine want_yes (by kernel_rfl) ?_
     go_simp
     exact hK _ _ _ rfl (Below.refl _ _) rfl
   refine ⟨?_, ?_⟩
   · intro vs W hb hD K hK
     simp only [fillL, zP, zN, zS, zC, zZ] at hK ⊢
     clear hD
     refine want_yes (by kernel_rfl) ?_
     go_simp
     exact hK _ _ _ rfl (Below.refl _ _) rfl
   refine ⟨?_, ?_⟩
   · intro vs W hb hD K hK
     have h20 : vs 20 = Value.slice (some ⟨g, 0, none⟩) n cap := hD (20, some 27) List.mem_cons_self
     have h21 : vs 21 = Value.int .i64 j := hD (21, some 28) (List.mem_cons_of_mem _ List.mem_cons_self)
     simp only [fillL, zP, zN, zS, zC, zZ, h20, h21] at hK ⊢
     clear hD h20 h21
     refine want_yes (by kernel_rfl) ?_
     go_simp
     exact hK _ _ _ rfl (Below.refl _ _) rfl
   refine ⟨?_, ?_⟩
   · intro vs W hb hD K hK
     have h22 : vs 22 = Value.pointer (some ⟨g, j * 2, none⟩) := hD (22, some 29) List.mem_cons_self
     simp only [fillL, zP, zN, zS, zC, zZ, h22] at hK ⊢
     clear hD h22
     refine want_yes (by kernel_rfl) ?_
     go_simp
     exact hK _ _ _ rfl (Below.refl _ _) rfl
   refine ⟨?_, ?_⟩
   · intro vs W hb hD K hK
     have h23 : vs 23 = Value.pointer (some ⟨g, j * 2 + 1, none⟩) := hD (23, some 30) List.mem_cons_self
     simp only [fillL, zP, zN, zS, zC, zZ, h23] at hK ⊢
     clear hD h23
     refine want_yes (by kernel_rfl) ?_
     obtain ⟨⟨x0, x1⟩, ⟨y0, y1⟩, ⟨a0, a1, a2⟩, b0, b1', b2'⟩ := HF.out W hb
     go_simp
     exact hK _ _ _ rfl (Below.refl _ _) rfl
   refine ⟨?_, ?_⟩
   · intro vs W hb hD K hK
     have h19 : vs 19 = Value.int .i64 (p : Int) := hD (19, some 26) List.mem_cons_self
     have h24 : vs 24 = Value.int .i64 (q : Int) := hD (24, some 31) (List.mem_cons_of_mem _ List.mem_cons_self)
     simp only [fillL, zP, zN, zS, zC, zZ, h19, h24] at hK ⊢
     clear hD h19 h24
     refine want_yes (by kernel_rfl) ?_
     go_simp
     refine ⟨trivial, (callsIn_wide.2 (CP.out _)).mono ?_⟩
     rintro e9 wb ⟨rfl, bb⟩
     exact hK _ _ _ rfl bb rfl
   refine ⟨?_, ?_⟩
   · intro vs W hb hD K hK
     have h14 : vs 14 = Value.int .i64 r := hD (14, some 21) List.mem_cons_self
     have h25 : vs 25 = Value.int .i64 s := hD (25, some 32) (List.mem_cons_of_mem _ List.mem_cons_self)
     simp only [fillL, zP, zN, zS, zC, zZ, h14, h25] at hK ⊢
     clear hD h14 h25
     refine want_yes (by kernel_rfl) ?_
     go_simp
     exact hK _ _ _ rfl ((Below.refl _ _).alloc (Nat.le_refl _) _) ⟨_, rfl, by rw [cell_of_row _ _ _ _ _ _ (heap_alloc_new W _)]; rfl, by rw [cell_of_row _ _ _ _ _ _ (heap_alloc_new W _)]; rfl⟩
   refine ⟨?_, ?_⟩
   · intro vs W hb hD K hK
     obtain ⟨x26, hx26⟩ : ∃ x, vs 26 = x := ⟨_, rfl⟩
     have h26 : (fun v W => ∃ x, v = .slice (some ⟨x, 0, none⟩) 2 2 ∧ W.cell? ⟨x, 0, none⟩ = some (.int .i64 r) ∧ W.cell? ⟨x, 1, none⟩ = some (.int .i64 s)) (vs 26) W := hD (26, some 33) List.mem_cons_self
     rw [hx26] at h26
     simp only [fillL, zP, zN, zS, zC, zZ, hx26] at hK ⊢
     clear hD hx26
     refine want_yes (by kernel_rfl) ?_
     obtain ⟨x, rfl, k0, k1⟩ := h26
     go_simp
     refine ⟨trivial, (callsIn_wide.2 (orOneB x r s R _ HR.out k0 k1)).mono ?_⟩
     rintro e9 wb ⟨rfl, bb⟩
     exact hK _ _ _ rfl bb rfl
   refine ⟨?_, ?_⟩
   · intro vs W hb hD K hK
     have h27 : vs 27 = Value.int .i64 R := hD (27, some 34) List.mem_cons_self
     simp only [fillL, zP, zN, zS, zC, zZ, h27] at hK ⊢
     clear hD h27
     refine want_yes (by kernel_rfl) ?_
     go_simp
     exact hK _ _ _ rfl (Below.refl _ _) rfl
   refine ⟨?_, ?_⟩
   · intro vs W hb hD K hK
     have h28 : vs 28 = Value.bool (decide (R < 0)) := hD (28, some 35) List.mem_cons_self
     simp only [fillL, zP, zN, zS, zC, zZ, h28] at hK ⊢
     clear hD h28
     refine want_yes (by kernel_rfl) ?_
     go_simp
     exact hK _ _ _ rfl (Below.refl _ _) rfl
   trivial
 · intro vs W hb hF
   have h0 : vs 0 = Value.slice (some ⟨g, 0, none⟩) n cap := hF 0 (by decide)
   have h1 : vs 1 = Value.int .i64 i := hF 1 (by decide)
   have h2 : vs 2 = Value.pointer (some ⟨g, i * 2, none⟩) := hF 2 (by decide)
   have h3 : vs 3 = Value.pointer (some ⟨g, i * 2, none⟩) := hF 3 (by decide)
   have h4 : vs 4 = Value.slice (some ⟨b1, o1, none⟩) n1 c1 := hF 4 (by decide)
   have h5 : vs 5 = Value.pointer (some ⟨b1, o1, none⟩) := hF 5 (by decide)
   have h6 : vs 6 = Value.agg #[.string ⟨c.k.toArray⟩, .int .i64 c.q, .string ⟨c.v.toArray⟩] := hF 6 (by decide)
   have h7 : vs 7 = Value.slice (some ⟨g, 0, none⟩) n cap := hF 7 (by decide)
   have h8 : vs 8 = Value.int .i64 j := hF 8 (by decide)
   have h9 : vs 9 = Value.pointer (some ⟨g, j * 2, none⟩) := hF 9 (by decide)
   have h10 : vs 10 = Value.pointer (some ⟨g, j * 2, none⟩) := hF 10 (by decide)
   have h11 : vs 11 = Value.slice (some ⟨b2, o2, none⟩) n2 c2 := hF 11 (by decide)
   have h12 : vs 12 = Value.pointer (some ⟨b2, o2, none⟩) := hF 12 (by decide)
   have h13 : vs 13 = Value.agg #[.string ⟨d.k.toArray⟩, .int .i64 d.q, .string ⟨d.v.toArray⟩] := hF 13 (by decide)
   have h14 : vs 14 = Value.int .i64 r := hF 14 (by decide)
   have h15 : vs 15 = Value.slice (some ⟨g, 0, none⟩) n cap := hF 15 (by decide)
   have h16 : vs 16 = Value.int .i64 i := hF 16 (by decide)
   have h17 : vs 17 = Value.pointer (some ⟨g, i * 2, none⟩) := hF 17 (by decide)
   have h18 : vs 18 = Value.pointer (some ⟨g, i * 2 + 1, none⟩) := hF 18 (by decide)
   have h19 : vs 19 = Value.int .i64 (p : Int) := hF 19 (by decide)
   have h20 : vs 20 = Value.slice (some ⟨g, 0, none⟩) n cap := hF 20 (by decide)
   have h21 : vs 21 = Value.int .i64 j := hF 21 (by decide)
   have h22 : vs 22 = Value.pointer (some ⟨g, j * 2, none⟩) := hF 22 (by decide)
   have h23 : vs 23 = Value.pointer (some ⟨g, j * 2 + 1, none⟩) := hF 23 (by decide)
   have h24 : vs 24 = Value.int .i64 (q : Int) := hF 24 (by decide)
   have h25 : vs 25 = Value.int .i64 s := hF 25 (by decide)
   obtain ⟨x26, hx26⟩ : ∃ x, vs 26 = x := ⟨_, rfl⟩
   have h26 : (fun v W => ∃ x, v = .slice (some ⟨x, 0, none⟩) 2 2 ∧ W.cell? ⟨x, 0, none⟩ = some (.int .i64 r) ∧ W.cell? ⟨x, 1, none⟩ = some (.int .i64 s)) (vs 26) W := hF 26 (by decide)
   rw [hx26] at h26
   have h27 : vs 27 = Value.int .i64 R := hF 27 (by decide)
   have h28 : vs 28 = Value.bool (decide (R < 0)) := hF 28 (by decide)
   have h29 : vs 29 = Value.bool (decide (R < 0)) := hF 29 (by decide)
   simp only [fillL, zP, zN, zS, zC, zZ, h0, h1, h2, h3, h4, h5, h6, h7, h8, h9, h10, h11, h12, h13, h14, h15, h16, h17, h18, h19, h20, h21, h22, h23, h24, h25, hx26, h27, h28, h29]
   clear hF h0 h1 h2 h3 h4 h5 h6 h7 h8 h9 h10 h11 h12 h13 h14 h15 h16 h17 h18 h19 h20 h21 h22 h23 h24 h25 hx26 h27 h28 h29
   clear HF CC CP
   have hrr := HRL.out
   go_wp2_with fail
   go_ret
   exact ⟨by rw [← hrr]; rfl, (Below.drew (Below.refl w.heap.size w)).trans hb⟩
theorem SlC.aside {v : Value} {l : List Ce} {W : World} {g : Nat} {cur : Array Value} (h : SlC v l W) (hg : W.heap[g]? = some (.cells cur 176 (0, 0))) (o : Nat) (x : Value) : SlC v l (W.setCell ⟨g, o, none⟩ x) := by
 have hne : ∀ b, v.ownBlock = some b → b ≠ g := fun b e hbg => by
  obtain ⟨cur', hc⟩ := h.2 b e
  rw [hbg, hg] at hc
  simp only [Option.some.injEq, Obj.cells.injEq] at hc
  exact absurd hc.2.1 (by decide)
 refine ⟨?_, fun b e => ?_⟩
 · obtain ⟨A, cap, rfl, h1, h2, h3⟩ := h.1
   refine ⟨A, cap, rfl, h1, h2, fun hl => ?_⟩
   obtain ⟨b, o2, rfl, hrow⟩ := h3 hl
   have hbg : b ≠ g := hne b rfl
   refine ⟨b, o2, rfl, ?_, fun i hi j u hj => ?_⟩
   · have := hrow.1
     simpa [World.setCell] using this
   · have := hrow.2 i hi j u hj
     rw [World.cell?_of_block (w := W) (Below.heap_setCell W ⟨g, o, none⟩ x b hbg)]
     exact this
 · obtain ⟨cur', hc⟩ := h.2 b e
   exact ⟨cur', (Below.heap_setCell W ⟨g, o, none⟩ x b (hne b e)).trans hc⟩
theorem RwAt.put {g cap : Nat} {H : List Rw} {vs : List Value} {W : World} (h : RwAt g cap H vs W) {k : Nat} (hk : k < H.length) (r : Rw) (v : Value) (hs : SlC v r.1 W) :
 RwAt g cap (H.set k r) (vs.set k v) ((W.setCell ⟨g, k * 2, none⟩ v).setCell ⟨g, k * 2 + 1, none⟩ (.int .i64 (r.2 : Int))) := by
 obtain ⟨cur, h1, h2, h3⟩ := h.blk
 have a1 := heap_setCell_same W g (k * 2) _ _ v h1
 have a2 := heap_setCell_same _ g (k * 2 + 1) _ _ (.int .i64 (r.2 : Int)) a1
 have hkc : k * 2 + 1 < cur.size := by have := h.le; omega
 refine ⟨by simp [h.len], ⟨_, a2, by simpa using h2, fun i hi => ?_⟩, by simpa using h.le, h.max, fun i hi => ?_⟩
 · rw [List.length_set] at hi
   have hi2 : i < vs.length := by rw [h.len]; exact hi
   simp only [Array.getElem?_setIfInBounds, Array.size_setIfInBounds]
   by_cases e : i = k
   · subst e
     constructor
     · rw [if_neg (by omega), if_pos rfl, if_pos (by omega)]
       simp [List.getD, hi2]
     · rw [if_pos rfl, if_pos (by omega)]
       simp [List.getD, hi]
   · obtain ⟨e1, e2⟩ := h3 i hi
     constructor
     · rw [if_neg (by omega), if_neg (by omega), e1]
       simp [List.getD, List.getElem?_set, Ne.symm e]
     · rw [if_neg (by omega), if_neg (by omega), e2]
       simp [List.getD, List.getElem?_set, Ne.symm e]
 · rw [List.length_set] at hi
   have hi2 : i < vs.length := by rw [h.len]; exact hi
   have key : ∀ v' l', SlC v' l' W → SlC v' l' ((W.setCell ⟨g, k * 2, none⟩ v).setCell ⟨g, k * 2 + 1, none⟩ (.int .i64 (r.2 : Int))) := fun v' l' hh => (hh.aside h1 _ _).aside a1 _ _
   by_cases e : i = k
   · subst e
     rw [show (vs.set i v).getD i undef = v by simp [List.getD, hi2], show (H.set i r).getD i rz = r by simp [List.getD, hi]]
     exact key _ _ hs
   · rw [show (vs.set k v).getD i undef = vs.getD i undef by simp [List.getD, List.getElem?_set, Ne.symm e], show (H.set k r).getD i rz = H.getD i rz by simp [List.getD, List.getElem?_set, Ne.symm e]]
     exact key _ _ (h.sl i hi)
theorem RwAt.free {g cap : Nat} {H : List Rw} {vs : List Value} {W : World} (h : RwAt g cap H vs W) (o : Nat) : W.frozen? ⟨g, o, none⟩ = false := by
 obtain ⟨cur, h1, _⟩ := h.blk
 simp [World.frozen?, h1]
def swapV (vs : List Value) (i j : Nat) : List Value := (vs.set i (vs.getD j undef)).set j (vs.getD i undef)
set_option maxRecDepth 100000 in
set_option maxHeartbeats 4000000 in
theorem rowsSwap_any (g cap i j lo : Nat) (H : List Rw) (vs : List Value) (w : World) (h : RwAt g cap H vs w) (hi : i < H.length) (hj : j < H.length) (hlo : lo ≤ g) :
 Calls Tryz.prog 175 #[.slice (some ⟨g, 0, none⟩) H.length cap, .int .i64 i, .int .i64 j] w fun e w' => e = .returned (.tuple #[]) ∧ RwAt g cap (swapR H i j) (swapV vs i j) w' ∧ Below lo w w' ∧ ∀ k, k ≠ g → w'.heap[k]? = w.heap[k]? := by
 obtain ⟨cur0, hblk, -⟩ := h.blk
 have p1 := h.put hi (H.getD j rz) (vs.getD j undef) (h.sl j hj)
 have r2 := p1.put (k := j) (by rw [List.length_set]; exact hj) (H.getD i rz) (vs.getD i undef) (((h.sl i hi).aside hblk _ _).aside (heap_setCell_same w g (i * 2) _ _ _ hblk) _ _)
 have b2 := below_set (below_set (below_set (below_set (Below.refl lo w) hlo (i * 2) (vs.getD j undef)) hlo (i * 2 + 1) (.int .i64 ((H.getD j rz).2 : Int))) hlo (j * 2) (vs.getD i undef)) hlo (j * 2 + 1) (.int .i64 ((H.getD i rz).2 : Int))
 have k2 : ∀ k, k ≠ g → ((((w.setCell ⟨g, i * 2, none⟩ (vs.getD j undef)).setCell ⟨g, i * 2 + 1, none⟩ (.int .i64 ((H.getD j rz).2 : Int))).setCell ⟨g, j * 2, none⟩ (vs.getD i undef)).setCell ⟨g, j * 2 + 1, none⟩ (.int .i64 ((H.getD i rz).2 : Int))).heap[k]? = w.heap[k]? := fun k hk =>
  (Below.heap_setCell _ ⟨g, j * 2 + 1, none⟩ _ k hk).trans ((Below.heap_setCell _ ⟨g, j * 2, none⟩ _ k hk).trans ((Below.heap_setCell _ ⟨g, i * 2 + 1, none⟩ _ k hk).trans (Below.heap_setCell _ ⟨g, i * 2, none⟩ _ k hk)))
 clear p1 hblk
 obtain ⟨n, hn⟩ : ∃ n, H.length = n := ⟨_, rfl⟩
 obtain ⟨x0, x1⟩ := h.cell hi
 obtain ⟨y0, y1⟩ := h.cell hj
 have f0 := h.free (i * 2)
 have f1 := h.free (i * 2 + 1)
 have g0 := h.free (j * 2)
 have g1 := h.free (j * 2 + 1)
 rw [hn] at hi hj ⊢
 have hii : (i : Int) < (n : Int) := by omega
 have hji : (j : Int) < (n : Int) := by omega
 obtain ⟨A1, c1, hv1, -⟩ := (h.sl i (by omega)).1
 obtain ⟨A2, c2, hv2, -⟩ := (h.sl j (by omega)).1
 rw [hv1] at x0 r2 b2 k2
 rw [hv2] at y0 r2 b2 k2
 obtain ⟨n1, hn1⟩ : ∃ n1, (H.getD i rz).1.length = n1 := ⟨_, rfl⟩
 obtain ⟨n2, hn2⟩ : ∃ n2, (H.getD j rz).1.length = n2 := ⟨_, rfl⟩
 obtain ⟨p, hp⟩ : ∃ p, (H.getD i rz).2 = p := ⟨_, rfl⟩
 obtain ⟨q, hq⟩ : ∃ q, (H.getD j rz).2 = q := ⟨_, rfl⟩
 rw [hn1] at x0 r2 b2 k2
 rw [hn2] at y0 r2 b2 k2
 rw [hp] at x1 r2 b2 k2
 rw [hq] at y1 r2 b2 k2
 have HE := Lib.hid (show RwAt g cap (swapR H i j) (swapV vs i j) _ ∧ Below lo w _ ∧ ∀ k, k ≠ g → (World.heap _)[k]? = w.heap[k]? from ⟨by unfold swapR swapV; rw [hv1, hv2, hn1, hn2]; exact r2.later (Below.drew (Below.refl _ _)), Below.drew b2, k2⟩)
 clear h hn hv1 hv2 hn1 hn2 hp hq r2 b2 k2 hlo
 by_cases e : i = j
 · subst e
   obtain ⟨rfl, rfl, rfl⟩ : A1 = A2 ∧ n1 = n2 ∧ c1 = c2 := by simpa using x0.symm.trans y0
   obtain rfl : p = q := by have := x1.symm.trans y1; simp at this; omega
   clear y0 y1
   go_enter Tryz.func175, Tryz.ntmps175
   go_wp2_with fail
   go_region_with fail
   all_goals (go_wp2_with fail; go_end0; exact ⟨rfl, HE.out.1, HE.out.2.1, HE.out.2.2⟩)
 · have n0 : ¬ i * 2 = j * 2 := by omega
   have n1' : ¬ j * 2 = i * 2 := by omega
   have n2' : ¬ i * 2 = j * 2 + 1 := by omega
   have n3 : ¬ j * 2 + 1 = i * 2 := by omega
   have n4 : ¬ i * 2 + 1 = j * 2 := by omega
   have n5 : ¬ j * 2 = i * 2 + 1 := by omega
   have n6 : ¬ i * 2 + 1 = j * 2 + 1 := by omega
   have n7 : ¬ j * 2 + 1 = i * 2 + 1 := by omega
   go_enter Tryz.func175, Tryz.ntmps175
   go_wp2_with fail
   go_region_with fail
   all_goals (go_wp2_with fail; go_end0; exact ⟨rfl, HE.out.1, HE.out.2.1, HE.out.2.2⟩)
def rwRow : List Rw → List Value → List Value
 | r :: rs, v :: vs => v :: .int .i64 (r.2 : Int) :: rwRow rs vs
 | _, _ => []
theorem rwRow_snoc {r : Rw} {v : Value} : ∀ {rs : List Rw} {vs : List Value}, vs.length = rs.length → rwRow (rs ++ [r]) (vs ++ [v]) = rwRow rs vs ++ [v, .int .i64 (r.2 : Int)]
 | [], [], _ => rfl
 | [], _ :: _, h => by simp at h
 | _ :: _, [], h => by simp at h
 | a :: rs, b :: vs, h => by
   show _ :: _ :: rwRow (rs ++ [r]) (vs ++ [v]) = _
   rw [rwRow_snoc (by simpa using h)]
   rfl
theorem rwRow_at : ∀ {rs : List Rw} {vs : List Value}, vs.length = rs.length → ∀ i, i < rs.length → (rwRow rs vs)[i * 2]? = some (vs.getD i undef) ∧ (rwRow rs vs)[i * 2 + 1]? = some (.int .i64 ((rs.getD i rz).2 : Int))
 | [], [], _, i, hi => by simp at hi
 | [], _ :: _, h, _, _ => by simp at h
 | _ :: _, [], h, _, _ => by simp at h
 | a :: rs, b :: vs, h, 0, hi => ⟨rfl, rfl⟩
 | a :: rs, b :: vs, h, i + 1, hi => by
   obtain ⟨h1, h2⟩ := rwRow_at (rs := rs) (vs := vs) (by simpa using h) i (by simpa using hi)
   rw [show (i + 1) * 2 = i * 2 + 1 + 1 by omega]
   exact ⟨h1, h2⟩
theorem rwRow_length : ∀ {rs : List Rw} {vs : List Value}, vs.length = rs.length → (rwRow rs vs).length = rs.length * 2
 | [], [], _ => rfl
 | [], _ :: _, h => by simp at h
 | _ :: _, [], h => by simp at h
 | a :: rs, b :: vs, h => by
   simp only [rwRow, List.length_cons]
   rw [rwRow_length (by simpa using h)]
   omega
theorem info_row : (Tryz.prog.info? 176).map (fun i => (i.zero, i.size, i.bytes)) = some (some (.agg #[.slice none 0 0, .int .i64 0]), 2, 32) := by kernel_rfl
structure HpAt (p base : Nat) (H : List Rw) (vs : List Value) (W : World) : Prop where
 own : ∃ v, W.heap[p]? = some (.cells #[v] 172 (0, 0)) ∧ W.ownsRow base 176 2 v H.length (rwRow H vs)
 len : vs.length = H.length
 sl : ∀ i, i < H.length → SlC (vs.getD i undef) (H.getD i rz).1 W
 lt : p < base
 le : base ≤ W.heap.size
theorem RwAt.owns {g cap base : Nat} {H : List Rw} {vs : List Value} {W : World} (h : RwAt g cap H vs W) (hb : base ≤ g) : W.ownsRow base 176 2 (.slice (some ⟨g, 0, none⟩) H.length cap) H.length (rwRow H vs) := by
 obtain ⟨cur, h1, h2, h3⟩ := h.blk
 refine ⟨rwRow_length h.len, .inr ⟨g, cap, cur, rfl, hb, h1, h.le, h.max, h2, ?_⟩⟩
 have hl := rwRow_length h.len
 have hle := h.le
 apply List.ext_getElem?
 intro j
 by_cases hj : j < H.length * 2
 · rw [List.getElem?_take, if_pos hj, Array.getElem?_toList]
   obtain ⟨e1, e2⟩ := h3 (j / 2) (by omega)
   obtain ⟨k1, k2⟩ := rwRow_at h.len (j / 2) (by omega)
   rcases (by omega : j = j / 2 * 2 ∨ j = j / 2 * 2 + 1) with e | e
   · rw [e, e1, k1]
   · rw [e, e2, k2]
 · have q1 : (cur.toList.take (H.length * 2)).length ≤ j := by rw [List.length_take]; omega
   have q2 : (rwRow H vs).length ≤ j := by omega
   rw [List.getElem?_eq_none q1, List.getElem?_eq_none q2]
theorem HpAt.row {p base : Nat} {H : List Rw} {vs : List Value} {W : World} (h : HpAt p base H vs W) (h0 : 0 < H.length) : ∃ g cap, W.heap[p]? = some (.cells #[.slice (some ⟨g, 0, none⟩) H.length cap] 172 (0, 0)) ∧ base ≤ g ∧ RwAt g cap H vs W := by
 obtain ⟨v, h1, h2⟩ := h.own
 rcases h2.2 with ⟨-, e⟩ | ⟨g, cap, cur, rfl, hb, hg, hn, hm, hc, ht⟩
 · omega
 · refine ⟨g, cap, h1, hb, h.len, ⟨cur, hg, hc, fun i hi => ?_⟩, hn, hm, h.sl⟩
   obtain ⟨k1, k2⟩ := rwRow_at h.len i hi
   rw [← ht, List.getElem?_take, if_pos (by omega), Array.getElem?_toList] at k1 k2
   exact ⟨k1, k2⟩
def RFr (p : Nat) (W W' : World) : Prop := Below p W W' ∧ ∀ k, k < W.heap.size → k ≠ p → (∀ cur, W.heap[k]? ≠ some (.cells cur 176 (0, 0))) → W'.heap[k]? = W.heap[k]?
theorem RFr.refl (p : Nat) (W : World) : RFr p W W := ⟨Below.refl _ _, fun _ _ _ _ => rfl⟩
theorem RFr.of {p : Nat} {W W' : World} (hb : Below W.heap.size W W') (hp : p ≤ W.heap.size) : RFr p W W' := ⟨hb.mono hp, fun k hk _ _ => hb.block k hk⟩
theorem RFr.trans {p : Nat} {a b c : World} (h : RFr p a b) (k : RFr p b c) : RFr p a c :=
 ⟨h.1.trans k.1, fun x hx hp hr => by
   have e := h.2 x hx hp hr
   rw [k.2 x (Nat.lt_of_lt_of_le hx h.1.size) hp (fun cur hc => hr cur (by rw [← e]; exact hc)), e]⟩
theorem SlC.rfr {p : Nat} {v : Value} {l : List Ce} {W W' : World} (h : SlC v l W) (hp : ∀ cur, W.heap[p]? ≠ some (.cells cur 38 (0, 0))) (f : RFr p W W') : SlC v l W' := by
 have key : ∀ b, v.ownBlock = some b → W'.heap[b]? = W.heap[b]? := fun b e => by
  obtain ⟨cur, hc⟩ := h.2 b e
  refine f.2 b (Go.ltA hc) (fun e' => hp cur (by rw [← e']; exact hc)) fun cur' hc' => ?_
  rw [hc] at hc'
  simp only [Option.some.injEq, Obj.cells.injEq] at hc'
  exact absurd hc'.2.1 (by decide)
 refine ⟨?_, fun b e => ?_⟩
 · obtain ⟨A, cap, rfl, h1, h2, h3⟩ := h.1
   refine ⟨A, cap, rfl, h1, h2, fun hl => ?_⟩
   obtain ⟨b, o2, rfl, hrow⟩ := h3 hl
   have hk := key b rfl
   refine ⟨b, o2, rfl, Nat.lt_of_lt_of_le hrow.1 f.1.size, fun i hi j u hj => ?_⟩
   rw [World.cell?_of_block (w := W) hk]
   exact hrow.2 i hi j u hj
 · obtain ⟨cur, hc⟩ := h.2 b e
   exact ⟨cur, (key b e).trans hc⟩
theorem HpAt.notCell {p base : Nat} {H : List Rw} {vs : List Value} {W : World} (h : HpAt p base H vs W) : ∀ cur, W.heap[p]? ≠ some (.cells cur 38 (0, 0)) := fun cur hc => by
 obtain ⟨v, h1, -⟩ := h.own
 rw [h1] at hc
 simp only [Option.some.injEq, Obj.cells.injEq] at hc
 exact absurd hc.2.1 (by decide)
theorem assert_row (x : Value) (W : World) : (Instr.typeAssert (.iface 176 x) 20 176 false).run Tryz.prog W = .ok x W := by kernel_rfl
theorem rw_append {base : Nat} {v0 : Value} {H : List Rw} {vs : List Value} {W : World} (own : W.ownsRow base 176 2 v0 H.length (rwRow H vs)) (hlen : vs.length = H.length) (hb : base ≤ W.heap.size) (r : Rw) {v : Value} (hs : SlC v r.1 W) (X : Nat)
 (hX : W.heap[X]? = some (.cells #[v, .int .i64 (r.2 : Int)] 176 (0, 0))) (hn : H.length ≤ 1000000) :
 ∃ v' w', (Builtin.append_ #[170, 170] 170 #[v0, .slice (some ⟨X, 0, none⟩) 1 1]).run Tryz.prog W = .ok v' w' ∧ w'.ownsRow base 176 2 v' (H ++ [r]).length (rwRow (H ++ [r]) (vs ++ [v])) ∧ W.grownBy w' v0.ownBlock ∧ (∃ g' c', v' = .slice (some ⟨g', 0, none⟩) (H.length + 1) c') := by
 obtain ⟨i, hi, hz0, hz1, hz2⟩ := info_parts info_row
 obtain ⟨A, cp, hv, -⟩ := hs.1
 obtain ⟨v', w', hrun, r1, r2, r3⟩ := run_append_own (P := Tryz.prog) W base 170 170 176 i _ 2 32 Tryz.underlying170 hi hz0 hz1 hz2 rfl (by decide) v0 H.length (rwRow H vs) own ⟨X, 0, none⟩ 1 1 [v, .int .i64 (r.2 : Int)] rfl
  (fun j u hj => by
    match j, hj with
    | 0, hj => simp at hj; subst hj; simp [World.cell?, hX, Addr.add]
    | 1, hj => simp at hj; subst hj; simp [World.cell?, hX, Addr.add]
    | j + 2, hj => simp at hj) (fun u hu => by
    rcases List.mem_cons.1 hu with rfl | hu
    · rw [hv]; rfl
    · rcases List.mem_cons.1 hu with rfl | hu
      · rfl
      · cases hu) (by unfold maxLen; omega) (by omega) hb
 have hl : (H ++ [r]).length = H.length + 1 := by simp
 refine ⟨v', w', hrun, by rw [hl, rwRow_snoc hlen]; exact r1, r2, ?_⟩
 rcases r1.2 with ⟨_, e⟩ | ⟨g, cap, cur, rfl, _⟩
 · omega
 · exact ⟨g, cap, rfl⟩
set_option maxRecDepth 100000 in
set_option maxHeartbeats 4000000 in
theorem rowsPush_any (p base : Nat) (H : List Rw) (vs : List Value) (r : Rw) (v : Value) (w : World) (h : HpAt p base H vs w) (hs : SlC v r.1 w) (hn : H.length ≤ 100000) :
 Calls Tryz.prog 177 #[.pointer (some ⟨p, 0, none⟩), .iface 176 (.agg #[v, .int .i64 (r.2 : Int)])] w fun e w' => e = .returned (.tuple #[]) ∧ HpAt p base (H ++ [r]) (vs ++ [v]) w' ∧ RFr p w w' := by
 obtain ⟨v0, h1, own⟩ := h.own
 obtain ⟨A, c, hv, -⟩ := hs.1
 obtain ⟨m, hm⟩ : ∃ m, r.1.length = m := ⟨_, rfl⟩
 rw [hm] at hv
 have hpl := (Go.ltA h1)
 have nb := (Below.drew (Below.refl w.heap.size w)).alloc (by exact Nat.le_refl _) (.cells #[v, .int .i64 (r.2 : Int)] 176)
 have ownZ := own_lat own nb
 have hX := heap_alloc_new w.drew (.cells #[v, .int .i64 (r.2 : Int)] 176)
 obtain ⟨v', w', run, own', gr, g', c', hv'⟩ := rw_append ownZ h.len (Nat.le_trans h.le nb.size) r (hs.later nb) _ hX (by omega)
 have notp : v0.ownBlock ≠ some p := fun e => by
  rcases own.2 with ⟨rfl, _⟩ | ⟨g, cap, cur, rfl, hb, _⟩
  · cases e
  · have : g = p := by simpa [Value.ownBlock] using e
    have := h.lt
    omega
 have hpZ := (nb.block p hpl).trans h1
 have hp' : w'.heap[p]? = some (.cells #[v0] 172 (0, 0)) := (gr.block p (Nat.lt_of_lt_of_le hpl nb.size) (fun e => notp e.symm)).trans hpZ
 have hgp : g' ≠ p := fun e => by
  subst hv'
  rcases own'.2 with ⟨e2, _⟩ | ⟨g, cap, cur, e2, hb, _⟩
  · cases e2
  · simp only [Value.slice.injEq, Option.some.injEq, Addr.mk.injEq] at e2
    have := h.lt
    omega
 have r1 : RFr p w (w.drew.alloc (.cells #[v, .int .i64 (r.2 : Int)] 176)) := RFr.of nb (Nat.le_of_lt hpl)
 have r2 : RFr p (w.drew.alloc (.cells #[v, .int .i64 (r.2 : Int)] 176)) w' := by
  refine ⟨(Below.refl p _).grown gr (Nat.le_trans (Nat.le_of_lt hpl) nb.size) (fun k hk => ?_), fun k hk hkp hkr => gr.block k hk fun e => ?_⟩
  · rcases own.2 with ⟨rfl, _⟩ | ⟨g, cap, cur, rfl, hb, _⟩
    · cases hk
    · have : g = k := by simpa [Value.ownBlock] using hk
      have := h.lt
      omega
  · rcases ownZ.2 with ⟨rfl, _⟩ | ⟨g, cap, cur, rfl, hb, hg, _⟩
    · cases e
    · have e2 : k = g := by simpa [Value.ownBlock] using e
      rw [e2] at hkr
      exact hkr cur hg
 have r3 : RFr p w' (w'.setCell ⟨p, 0, none⟩ v') := ⟨below_set (Below.refl p w') (Nat.le_refl p) 0 v', fun k hk hkp _ => Below.heap_setCell w' ⟨p, 0, none⟩ v' k hkp⟩
 have rr := (r1.trans r2).trans r3
 have hE : HpAt p base (H ++ [r]) (vs ++ [v]) (w'.setCell ⟨p, 0, none⟩ v') := by
  refine ⟨⟨v', ?_, ?_⟩, by simp [h.len], fun i hi => ?_, h.lt, Nat.le_trans h.le rr.1.size⟩
  · rw [heap_setCell_same w' p 0 _ _ _ hp']; rfl
  · refine ⟨own'.1, ?_⟩
    rcases own'.2 with ⟨e2, e3⟩ | ⟨g, cap, cur, e2, hb, hg, q⟩
    · exact .inl ⟨e2, e3⟩
    · refine .inr ⟨g, cap, cur, e2, hb, ?_, q⟩
      rw [Below.heap_setCell w' ⟨p, 0, none⟩ v' g (by have := h.lt; show g ≠ p; omega)]
      exact hg
  · rw [List.length_append, List.length_singleton] at hi
    by_cases e : i < H.length
    · have e1 : (vs ++ [v]).getD i undef = vs.getD i undef := by simp [List.getD, List.getElem?_append_left (show i < vs.length by rw [h.len]; exact e)]
      have e2 : (H ++ [r]).getD i rz = H.getD i rz := by simp [List.getD, List.getElem?_append_left e]
      rw [e1, e2]
      exact (h.sl i e).rfr h.notCell rr
    · obtain rfl : i = H.length := by omega
      have e1 : (vs ++ [v]).getD H.length undef = v := by rw [← h.len]; simp [List.getD]
      have e2 : (H ++ [r]).getD H.length rz = r := by simp [List.getD]
      rw [e1, e2]
      exact hs.rfr h.notCell rr
 have has := assert_row (.agg #[.slice A m c, .int .i64 (r.2 : Int)])
 have HE := Lib.hid (And.intro hE rr)
 have RUN := Lib.hid run
 have hc0 : w.drew.cell? ⟨p, 0, none⟩ = some v0 := by simp [World.cell?, show w.drew.heap[p]? = _ from h1]
 have hcZ : (w.drew.alloc (.cells #[v, .int .i64 (r.2 : Int)] 176)).cell? ⟨p, 0, none⟩ = some v0 := by simp [World.cell?, hpZ]
 have hc1 : w'.cell? ⟨p, 0, none⟩ = some v0 := by simp [World.cell?, hp']
 have hf1 : w'.frozen? ⟨p, 0, none⟩ = false := by simp [World.frozen?, hp']
 subst hv'
 subst hv
 clear h hs own own' ownZ nb hX run gr notp hpZ hp' hgp r1 r2 r3 rr hE h1 hm
 go_enter Tryz.func177, Tryz.ntmps177
 go_wp2_with fail
 refine (wpIn_wide (n := 5)).1 ?_
 refine wpIn_region_lit_late (fun W' => W'.cell? ⟨p, 0, none⟩ = some v0) (fun i => i == 9) (k := 10) (listed := #[false, false, false, false, false, false, false, false, false, false]) (by kernel_rfl) (by kernel_rfl) (by kernel_rfl) ?_
 have hS := hc0
 refine AnyS.yes 0 4 ?_ rfl rfl (by kernel_rfl) (fun _ _ _ _ _ => id) hS (fun _ => rfl) ?_ ?_; rotate_left; intro w' hw'; go_simp; with_reducible rfl; simp only [zP,zS,zC,zZ]
 refine AnyS.yes 1 5 ?_ rfl rfl (by kernel_rfl) (fun _ _ _ _ _ => id) hS (fun _ => rfl) ?_ ?_; rotate_left; intro w' hw'; go_simp; with_reducible rfl; simp only [zP,zS,zC,zZ]
 refine AnyS.yes 2 6 ?_ rfl rfl (by kernel_rfl) (fun _ _ _ _ _ => id) hS (fun _ => rfl) ?_ ?_; rotate_left; intro w' hw'; go_simp; with_reducible rfl; simp only [zP,zS,zC,zZ]
 refine AnyS.yes 3 7 ?_ rfl rfl (by kernel_rfl) (fun _ _ _ _ _ => id) hS (fun _ => rfl) ?_ ?_; rotate_left; intro w' hw'; go_simp; with_reducible rfl; simp only [zP,zS,zC,zZ]
 refine AnyS.yes 4 8 ?_ rfl rfl (by kernel_rfl) (fun _ _ _ _ _ => id) hS (fun _ => rfl) ?_ ?_; rotate_left; intro w' hw'; go_simp; with_reducible rfl; simp only [zP,zS,zC,zZ]
 refine AnyS.yes 5 9 ?_ rfl rfl (by kernel_rfl) (fun _ _ _ _ _ => id) hS (fun _ => rfl) ?_ ?_; rotate_left; intro w' hw'; go_simp; with_reducible rfl; simp only [zP,zS,zC,zZ]
 refine AnyS.next (i := 6) rfl (by kernel_rfl) (by kernel_rfl) fun K' hK' => ?_
 refine want_yes (by kernel_rfl) ?_
 go_simp
 refine hK' _ _ (fun _ => hcZ) ?_
 clear hK' K' hS
 simp only [zP,zN,zS,zC,zZ]
 refine AnyS.next (i := 7) rfl (by kernel_rfl) (by kernel_rfl) fun K' hK' => ?_
 refine want_yes (by kernel_rfl) ?_
 simp only [List.getElem_toArray, List.getElem_cons_succ, List.getElem_cons_zero]
 refine opIn_value _ (fun c h => by cases h) rfl (exec_append (s := .tmp 7) (x := .tmp 10) rfl rfl rfl RUN.out) ?_
 refine hK' _ _ (fun _ => hc1) ?_
 clear hK' K'
 simp only [zP,zN,zS,zC,zZ]
 have hS := hc1
 refine AnyS.yes 8 12 ?_ rfl rfl (by kernel_rfl) (fun _ _ _ _ _ => id) hS (fun _ => rfl) ?_ ?_; rotate_left; intro w' hw'; go_simp; with_reducible rfl; simp only [zP,zS,zC,zZ]
 clear hS
 refine AnyS.next (i := 9) rfl (by kernel_rfl) (by kernel_rfl) fun K' hK' => ?_
 refine want_yes (by kernel_rfl) ?_
 go_simp
 refine hK' _ _ (fun h => by cases h) ?_
 clear hK' K'
 try simp only [zP,zN,zS,zC,zZ]
 refine AnyS.done (by kernel_rfl) ?_ _
 go_wp2_with fail
 go_end0
 exact ⟨rfl, HE.out.1, HE.out.2⟩
theorem HpAt.lastOut {p base : Nat} {H : List Rw} {r : Rw} {vs : List Value} {v : Value} {W : World} (h : HpAt p base (H ++ [r]) (vs ++ [v]) W) : ∃ g cap A c, W.heap[p]? = some (.cells #[.slice (some ⟨g, 0, none⟩) (H.length + 1) cap] 172 (0, 0)) ∧ base ≤ g ∧ v = .slice A r.1.length c ∧ H.length + 1 ≤ cap ∧ cap ≤ maxLen ∧ g < W.heap.size ∧ vs.length = H.length ∧
 W.cell? ⟨g, H.length * 2, none⟩ = some v ∧ W.cell? ⟨g, H.length * 2 + 1, none⟩ = some (.int .i64 (r.2 : Int)) ∧ SlC v r.1 W := by
 obtain ⟨g, cap, h1, hb, hr⟩ := h.row (by simp)
 have hl : (H ++ [r]).length = H.length + 1 := by simp
 have hv : vs.length = H.length := by have := h.len; simpa using this
 rw [hl] at h1
 have e1 : (vs ++ [v]).getD H.length undef = v := by rw [← hv]; simp [List.getD]
 have e2 : (H ++ [r]).getD H.length rz = r := by simp [List.getD]
 obtain ⟨c1, c2⟩ := hr.cell (i := H.length) (by simp)
 have s := h.sl H.length (by simp)
 rw [e1] at c1 s
 rw [e2] at c2 s
 obtain ⟨A, c, hvv, -⟩ := s.1
 obtain ⟨cur, hg, -⟩ := hr.blk
 have hle := hr.le
 rw [hl] at hle
 exact ⟨g, cap, A, c, h1, hb, hvv, hle, hr.max, (Go.ltA hg), hv, c1, c2, s⟩
theorem HpAt.cut {p base : Nat} {H : List Rw} {r : Rw} {vs : List Value} {v : Value} {W W' : World} {g cap : Nat} (h : HpAt p base (H ++ [r]) (vs ++ [v]) W) (hv : vs.length = H.length) (hp : W.heap[p]? = some (.cells #[.slice (some ⟨g, 0, none⟩) (H.length + 1) cap] 172 (0, 0)))
 (f : RFr p W W') (hg : W'.heap[g]? = W.heap[g]?) (hp' : W'.heap[p]? = some (.cells #[.slice (some ⟨g, 0, none⟩) H.length cap] 172 (0, 0))) : HpAt p base H vs W' := by
 obtain ⟨v0, h1, h2⟩ := h.own
 have hl : (H ++ [r]).length = H.length + 1 := by simp
 rw [hp] at h1
 simp only [Option.some.injEq, Obj.cells.injEq] at h1
 have hv0 : v0 = .slice (some ⟨g, 0, none⟩) (H.length + 1) cap := by
  have := h1.1
  simp at this
  exact this.symm
 subst hv0
 refine ⟨⟨_, hp', rwRow_length hv, .inr ?_⟩, hv, fun i hi => ?_, h.lt, Nat.le_trans h.le f.1.size⟩
 · rcases h2.2 with ⟨e, _⟩ | ⟨g2, cap2, cur, e, hb, hgg, hn, hm, hc, ht⟩
   · cases e
   · simp only [Value.slice.injEq, Option.some.injEq, Addr.mk.injEq] at e
     obtain ⟨⟨rfl, -, -⟩, -, rfl⟩ := e
     refine ⟨g, cap, cur, rfl, hb, hg.trans hgg, by omega, hm, hc, ?_⟩
     have e3 := congrArg (List.take (H.length * 2)) ht
     have e4 : (rwRow H vs ++ [v, .int .i64 (r.2 : Int)]).take (H.length * 2) = rwRow H vs := by
      have hh := rwRow_length hv
      rw [← hh]
      simp
     rw [List.take_take, rwRow_snoc hv, hl, Nat.min_eq_left (by omega), e4] at e3
     exact e3
 · have s := h.sl i (by rw [hl]; omega)
   have e1 : (vs ++ [v]).getD i undef = vs.getD i undef := by simp [List.getD, List.getElem?_append_left (show i < vs.length by omega)]
   have e2 : (H ++ [r]).getD i rz = H.getD i rz := by simp [List.getD, List.getElem?_append_left hi]
   rw [e1, e2] at s
   exact s.rfr h.notCell f
set_option maxRecDepth 100000 in
set_option maxHeartbeats 4000000 in
theorem rowsPop_any (p base : Nat) (H : List Rw) (vs : List Value) (r : Rw) (v : Value) (w : World) (h : HpAt p base (H ++ [r]) (vs ++ [v]) w) (hn : H.length ≤ 100000) :
 Calls Tryz.prog 176 #[.pointer (some ⟨p, 0, none⟩)] w fun e w' => e = .returned (.iface 176 (.agg #[v, .int .i64 (r.2 : Int)])) ∧ HpAt p base H vs w' ∧ RFr p w w' := by
 obtain ⟨g, cap, A, c, hp, hb, hvv, hcap, hmax, hgl, hvl, c1, c2, hs⟩ := h.lastOut
 subst hvv
 obtain ⟨m, hm⟩ : ∃ m, r.1.length = m := ⟨_, rfl⟩
 obtain ⟨pl, hpl⟩ : ∃ pl, r.2 = pl := ⟨_, rfl⟩
 have hplt := (Go.ltA hp)
 have hpg : p ≠ g := by have := h.lt; omega
 have hx0 : w.cell? ⟨p, 0, none⟩ = some (.slice (some ⟨g, 0, none⟩) (H.length + 1) cap) := by simp [World.cell?, hp]
 have nb := (Below.refl w.heap.size w).alloc (Nat.le_refl _) (.cells #[.slice none 0 0, .int .i64 0] 176)
 have hq := heap_alloc_new w (.cells #[.slice none 0 0, .int .i64 0] 176)
 obtain ⟨q, hqe⟩ : ∃ q, w.heap.size = q := ⟨_, rfl⟩
 rw [hqe] at hq
 obtain ⟨w1, hw1⟩ : ∃ w1, w.alloc (.cells #[.slice none 0 0, .int .i64 0] 176) = w1 := ⟨_, rfl⟩
 rw [hw1] at nb hq
 have hp1 := (nb.block p hplt).trans hp
 have hx1 : w1.cell? ⟨p, 0, none⟩ = some (.slice (some ⟨g, 0, none⟩) (H.length + 1) cap) := by simp [World.cell?, hp1]
 have hfp : w1.frozen? ⟨p, 0, none⟩ = false := by simp [World.frozen?, hp1]
 have hq0 : w1.cell? ⟨q, 0, none⟩ = some (.slice none 0 0) := by simp [World.cell?, hq]
 have hq1 : w1.cell? ⟨q, 1, none⟩ = some (.int .i64 0) := by simp [World.cell?, hq]
 have hfq0 : w1.frozen? ⟨q, 0, none⟩ = false := by simp [World.frozen?, hq]
 have hfq1 : w1.frozen? ⟨q, 1, none⟩ = false := by simp [World.frozen?, hq]
 have hpq : ¬ p = q := by omega
 have hqp : ¬ q = p := by omega
 have hgq : g ≠ q := by omega
 have hE : HpAt p base H vs (((w1.setCell ⟨q, 0, none⟩ (.slice A r.1.length c)).setCell ⟨q, 1, none⟩ (.int .i64 (r.2 : Int))).setCell ⟨p, 0, none⟩ (.slice (some ⟨g, 0, none⟩) H.length cap)) ∧ RFr p w (((w1.setCell ⟨q, 0, none⟩ (.slice A r.1.length c)).setCell ⟨q, 1, none⟩ (.int .i64 (r.2 : Int))).setCell ⟨p, 0, none⟩ (.slice (some ⟨g, 0, none⟩) H.length cap)) := by
  have blk : ∀ k, k ≠ q → k ≠ p → (((w1.setCell ⟨q, 0, none⟩ (.slice A r.1.length c)).setCell ⟨q, 1, none⟩ (.int .i64 (r.2 : Int))).setCell ⟨p, 0, none⟩ (.slice (some ⟨g, 0, none⟩) H.length cap)).heap[k]? = w1.heap[k]? := fun k h1 h2 =>
   (Below.heap_setCell _ ⟨p, 0, none⟩ _ k h2).trans ((Below.heap_setCell _ ⟨q, 1, none⟩ _ k h1).trans (Below.heap_setCell _ ⟨q, 0, none⟩ _ k h1))
  have f : RFr p w (((w1.setCell ⟨q, 0, none⟩ (.slice A r.1.length c)).setCell ⟨q, 1, none⟩ (.int .i64 (r.2 : Int))).setCell ⟨p, 0, none⟩ (.slice (some ⟨g, 0, none⟩) H.length cap)) :=
   ⟨below_set (below_set (below_set (nb.mono (by omega)) (by omega) 0 _) (by omega) 1 _) (Nat.le_refl p) 0 _, fun k hk hkp _ => (blk k (by omega) hkp).trans (nb.block k hk)⟩
  refine ⟨h.cut hvl hp f ((blk g hgq hpg.symm).trans (nb.block g hgl)) ?_, f⟩
  have hp2 : ((w1.setCell ⟨q, 0, none⟩ (.slice A r.1.length c)).setCell ⟨q, 1, none⟩ (.int .i64 (r.2 : Int))).heap[p]? = some (.cells #[.slice (some ⟨g, 0, none⟩) (H.length + 1) cap] 172 (0, 0)) := by
   rw [Below.heap_setCell _ ⟨q, 1, none⟩ _ p hpq, Below.heap_setCell _ ⟨q, 0, none⟩ _ p hpq]
   exact hp1
  rw [heap_setCell_same _ p 0 _ _ _ hp2]
  rfl
 rw [hm] at hE ⊢
 rw [hpl] at hE c2 ⊢
 rw [hm] at c1
 have HE := Lib.hid hE
 obtain ⟨n, hnn⟩ : ∃ n, H.length = n := ⟨_, rfl⟩
 have HN := Lib.hid hnn
 rw [hnn] at hx0 hx1 c1 c2 hcap hn HE
 have hwn : IntKind.i64.wrap ((n : Int) + 1 - 1) = (n : Int) := by rw [IntKind.wrap_i64]; omega
 have hni : (n : Int) < (n : Int) + 1 := by omega
 have hnc : n ≤ cap := by omega
 clear h hE hp hp1 hq nb hs hvl hnn hmax hm hpl hb
 go_enter Tryz.func176, Tryz.ntmps176
 go_wp2_with fail
 go_ret
 exact ⟨rfl, HE.out.1, HE.out.2⟩
end Go.Proofs.YtoglloafpnopaaaGreat
