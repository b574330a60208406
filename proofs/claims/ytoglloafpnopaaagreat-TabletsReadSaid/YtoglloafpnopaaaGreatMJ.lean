/- Put of a memory, walked. -/
import Derived.Test.YtoglloafpnopaaaGreatMI
import Derived.Deep.RegionWith
import Derived.Deep.DeepCutAuto
set_option linter.unusedSimpArgs false
set_option linter.unusedVariables false
namespace Go.Proofs.YtoglloafpnopaaaGreat
set_option maxRecDepth 16000
open Go.RowKit Spoor
theorem pageM_any (p : Nat) (v : Value) (gs : List (List Ce)) (c : Ce) (w : World) (hp : w.heap[p]? = some (.cells #[.bool true, v] 109 (0, 0))) (hP : PgsAt v gs w) (ok : PagesOk gs) (h0 : 0 < gs.length) (hbig : gs.length ≤ 1000) :
 Calls Tryz.prog 83 #[.pointer (some ⟨p, 0, none⟩), ceVal c] w fun e w' => e = .returned (.int .i64 ((pagePos gs c - 1 : Nat) : Int)) ∧ Below w.heap.size w w' := by
 obtain ⟨f1, f2, f3⟩ := pagePos_facts ok c
 have b1 := (Below.refl w.heap.size w).alloc (Nat.le_refl _) (boxC c)
 have q1 := CeAt.boxed c w
 have hp1 := blk_later hp b1
 have hP1 := hP.later b1
 obtain ⟨A, cap, rfl, -, -, -⟩ := id hP
 have cc := fun W hb => searchP_any (.slice A gs.length cap) gs c (pagePos gs c) W (hP1.later hb) (fun g hg => (ok.some g hg).1) (by omega) f1
  (fun i hi => by have := f2 i hi; rw [← cmpCe_pos] at this; simpa using this) (fun i h h' => by have := f3 i h h'; rw [← cmpCe_pos] at this; simpa using this)
 obtain ⟨t, ht⟩ : ∃ t, pagePos gs c = t := ⟨_, rfl⟩
 rw [ht] at cc ⊢
 have hmx : max ((t : Int) - 1) 0 = ((t - 1 : Nat) : Int) := by omega
 have htb : t ≤ 1000 := by omega
 generalize gs.length = n at *
 unfold boxC at b1 q1 hp1 hP1 cc
 unfold ceVal at cc ⊢
 have HM := Lib.hid hmx
 have CC := Lib.hid cc
 obtain ⟨-, c1, -, hlt⟩ := Mem.cells hp1
 clear cc hp1 hP1 hp hP f1 f2 f3 ht hmx
 go_enter Tryz.func83, Tryz.ntmps83
 go_wp2_with fail
 obtain ⟨y0, y1, y2⟩ := q1.cell
 have lt1 := q1.lt
 generalize w.alloc _ = w1 at *
 clear q1
 refine wp_region_more (by kernel_rfl) (by kernel_rfl) ?_
 repeat (go_big_quiet_step (fail))
 go_big_quiet_step (exact Calls.more (CC.out _ (World.below_more _ _)))
 repeat (go_big_quiet_step (fail))
 refine wpQuiet_nil ?_
 rintro _ ⟨ex, rfl⟩
 have b2 := World.below_more w1 ex
 generalize w1.more ex = w2 at *
 go_wp2_with fail
 go_ret
 exact ⟨ret1 (by rw [← HM.out]; rfl), b1.trans (b2.mono (Nat.le_of_lt lt1))⟩
set_option maxHeartbeats 8000000 in
theorem putM_any (p : Nat) (L : List Ce) (fs : List Nat) (c : Ce) (w : World) (M : Mem p L fs w) (hbig : L.length ≤ 900) (hf : FitsC c) :
 Calls Tryz.prog 60 #[.pointer (some ⟨p, 0, none⟩), ceVal c] w fun e w' => e = .returned (.int .i64 (if c.may then 0 else 2)) ∧ ∃ fs', Mem p (putC L c) fs' w' ∧ (∀ x ∈ fs', x ∈ fs ∨ w.heap.size ≤ x) ∧ Fr fs w w' := by
 have M0 := M
 have hself := M.self
 have cm := fun W => may_any c W hf
 have b1 := (Below.refl w.heap.size w).alloc (Nat.le_refl _) (boxC c)
 have q1 := CeAt.boxed c w
 have M1 := M.later b1
 obtain ⟨gs, ⟨v, fs', hfs, hp, hP⟩, ok, hL⟩ := M1
 obtain ⟨c0, c1, z1, hpl⟩ := Mem.cells hp
 have hpg := hP.pgs
 have hmany := flat_many ok.some
 rw [hL] at hmany
 cases hm : c.may with
 | false =>
   have hres : putC L c = L := by unfold putC; rw [hm]; rfl
   rw [hres]
   rw [hm] at cm
   simp only [Bool.false_eq_true, if_false]
   have CM := Lib.hid cm
   have HM := Lib.hid M0
   clear cm hres hP hp hpg M0 M ok hL hmany
   unfold boxC at b1 q1 c0 c1 z1 hpl
   unfold ceVal at CM ⊢
   go_enter Tryz.func60, Tryz.ntmps60
   go_wp2_with fail
   obtain ⟨y0, y1, y2⟩ := q1.cell
   generalize w.alloc _ = w1 at *
   go_wp2_with fail
   refine (CM.out _).mono ?_
   rintro e w2 ⟨rfl, b2⟩
   go_wp2_with fail
   go_ret
   exact ⟨rfl, fs, HM.out.later (btP b1 b2), fun x hx => .inl hx, Fr.of_below (btP b1 b2)⟩
 | true =>
   have hres : putC L c = insC c L := by unfold putC; rw [hm]; rfl
   rw [hres]
   rw [hm] at cm
   simp only [if_true]
   have CM := Lib.hid cm
   by_cases h0 : gs = []
   · subst h0
     have hv : v = .slice none 0 0 := by
      rcases hP with ⟨h, _⟩ | ⟨_, _, _, _, _, h, _⟩
      · exact h
      · simp at h
     subst hv
     have hL0 : L = [] := by rw [← hL]; rfl
     subst hL0
     have hpw : p < w.heap.size := M0.lt p hself
     have HS := Lib.hid hself
     clear cm hres hP hpg M0 M ok hL hmany c0 c1 z1
     unfold boxC at b1 q1 hp hpl
     unfold ceVal at CM ⊢
     obtain ⟨c0, c1, z1, -⟩ := Mem.cells hp
     go_enter Tryz.func60, Tryz.ntmps60
     go_wp2_with fail
     obtain ⟨y0, y1, y2⟩ := q1.cell
     generalize w.alloc _ = w1 at *
     go_wp2_with fail
     refine (CM.out _).mono ?_
     rintro e w2 ⟨rfl, b2⟩
     have hp2 := blk_later hp b2
     have q2 := q1.later b2 q1.lt
     have B := btP b1 b2
     clear y0 y1 y2 c0 c1 z1 hp q1 b1 hpl b2 CM
     obtain ⟨c0, c1, z1, hpl⟩ := Mem.cells hp2
     obtain ⟨y0, y1, y2⟩ := q2.cell
     have hsz := B.size
     have F := (Fr.of_below (S := [p]) B).set ⟨p, 1, none⟩ (.inl (by simp)) (.slice (some ⟨w2.heap.size + 1, 0, none⟩) 1 1)
     have hset := heap_setCell_same w2 p 1 _ _ (.slice (some ⟨w2.heap.size + 1, 0, none⟩) 1 1) hp2
     have hs3 : (w2.setCell ⟨p, 1, none⟩ (.slice (some ⟨w2.heap.size + 1, 0, none⟩) 1 1)).heap.size = w2.heap.size := by simp [World.setCell]
     obtain ⟨w3, hw3⟩ : ∃ w3, w2.setCell ⟨p, 1, none⟩ (.slice (some ⟨w2.heap.size + 1, 0, none⟩) 1 1) = w3 := ⟨_, rfl⟩
     rw [hw3] at F hset hs3
     have F2 := (F.alloc (boxC c)).alloc (.cells #[.slice (some ⟨w2.heap.size, 0, none⟩) 1 1] 134)
     have hA : ((w3.alloc (boxC c)).alloc (.cells #[.slice (some ⟨w2.heap.size, 0, none⟩) 1 1] 134)).heap[w2.heap.size]? = some (boxC c) := by rw [← hs3]; exact heap_alloc2_old w3 _ _
     have hB : ((w3.alloc (boxC c)).alloc (.cells #[.slice (some ⟨w2.heap.size, 0, none⟩) 1 1] 134)).heap[w2.heap.size + 1]? = some (.cells #[.slice (some ⟨w2.heap.size, 0, none⟩) 1 1] 134) := by rw [← hs3]; exact heap_alloc2_new w3 _ _
     have hC : ((w3.alloc (boxC c)).alloc (.cells #[.slice (some ⟨w2.heap.size, 0, none⟩) 1 1] 134)).heap[p]? = _ := (Below.heap_alloc (w3.alloc (boxC c)) _ p (by simp; omega)).trans ((Below.heap_alloc w3 _ p (by omega)).trans hset)
     unfold boxC at F2 hA hB hC
     have MF : Mem p [c] [p, w2.heap.size + 1, w2.heap.size] ((w3.alloc (.cells #[.string ⟨c.k.toArray⟩, .int .i64 c.q, .string ⟨c.v.toArray⟩] 38)).alloc (.cells #[.slice (some ⟨w2.heap.size, 0, none⟩) 1 1] 134)) := by
      refine ⟨[[c]], ⟨_, _, rfl, hC, PagesAt.shut (gs := [[c]]) (cap := 1) (bs := [w2.heap.size]) (by simp) (by simp) (by unfold maxLen; omega) hB rfl (by simp) ⟨?_, trivial⟩⟩, first_ok hm, rfl⟩
      exact ⟨1, _, rfl, by simp, by unfold maxLen; omega, hA, by simp, rfl⟩
     subst hw3
     have HF := Lib.hid (And.intro MF F2)
     have HZ := Lib.hid hsz
     clear hset MF F2 F hA hB hC q2 hp2 hs3 hsz
     go_wp2_with fail
     go_ret
     refine ⟨rfl, _, HF.out.1, fun x hx => ?_, HF.out.2.mono fun x hx => ?_⟩
     · have := HZ.out
       simp only [List.mem_cons, List.not_mem_nil, or_false] at hx
       rcases hx with rfl | rfl | rfl
       · exact .inl HS.out
       · right; omega
       · right; omega
     · simp only [List.mem_singleton] at hx
       subst hx
       exact HS.out
   · have hn : 0 < gs.length := List.length_pos_iff.2 h0
     obtain ⟨g, cap, cur, bs, rfl, g1, g2, g3, g4, rfl, hnd, hPL⟩ := hP.open hn
     obtain ⟨hl1, hl2⟩ := hPL.len
     obtain ⟨f1, f2, f3⟩ := pagePos_facts ok c
     have hflat := putG_flat ok hn f2 f3 f1
     have hok := put_ok ok hm hn f2 f3 f1
     have cp := fun W (hb : Below (w.alloc (boxC c)).heap.size (w.alloc (boxC c)) W) => pageM_any p _ gs c W (blk_later hp hb) (hpg.later hb) ok hn (by omega)
     obtain ⟨k, hk⟩ : ∃ k, pagePos gs c - 1 = k := ⟨_, rfl⟩
     rw [hk] at hflat hok cp
     have hkn : k < gs.length := by omega
     rw [hL] at hflat
     obtain ⟨u, hu, hPk⟩ := hPL.at k hkn
     obtain ⟨gk, hgk⟩ : ∃ gk, gs.getD k [] = gk := ⟨_, rfl⟩
     rw [hgk] at hflat hok hPk
     have hgr : Rise gk := by
      have hr := ok.rise
      rw [flat_split hkn, hgk] at hr
      exact (rise_app.1 (rise_app.1 hr).2.1).1
     have hgl : 0 < gk.length ∧ gk.length ≤ 16 := by rw [← hgk]; exact ok.some _ (getD_page hkn)
     obtain ⟨p1, p2, p3⟩ := cellPos_facts hgr c
     obtain ⟨at', hat⟩ : ∃ at', cellPos gk c = at' := ⟨_, rfl⟩
     rw [hat] at p1 p2 p3
     have hins := insC_at p2 p1 (fun h => p3 at' (Nat.le_refl _) h)
     obtain ⟨bk, hbk⟩ : ∃ bk, bs.getD k 0 = bk := ⟨_, rfl⟩
     rw [hbk] at hPk
     have cs := fun BB hB W (hb : Below (w.alloc (boxC c)).heap.size (w.alloc (boxC c)) W) => searchC_any u gk c BB at' W (hPk.sl.later hb) (by omega) p1
      (fun i hi => by have := p2 i hi; rw [← cmpCe_neg] at this; simpa using this) (fun i h h' => by have := p3 i h h'; rw [← cmpCe_neg] at this; simpa using this) hB
     obtain ⟨capk, curk, rfl, k1, k2, k3, k4, k5⟩ := id hPk
     have hcell : cur[k]? = some (.slice (some ⟨bk, 0, none⟩) gk.length capk) := by
      rw [List.getElem?_take, if_pos hkn, Array.getElem?_toList] at hu
      exact hu
     have hgl2 : g < (w.alloc (boxC c)).heap.size := (Go.ltA g3)
     have hcg : (w.alloc (boxC c)).cell? ⟨g, k, none⟩ = some (.slice (some ⟨bk, 0, none⟩) gk.length capk) := by
      rw [World.cell?]; simp only [g3]; exact hcell
     obtain ⟨n, hnn⟩ : ∃ n, gs.length = n := ⟨_, rfl⟩
     obtain ⟨m, hmm⟩ : ∃ m, gk.length = m := ⟨_, rfl⟩
     obtain ⟨x, hx⟩ : ∃ x, gk.getD at' Ce.zero = x := ⟨_, rfl⟩
     have hzs : (cmpCe x c = 0) = (sameC x c = true) := by rw [← cmpCe_zero]; simp
     rw [hx, hmm] at hins
     rw [hnn] at hkn g1
     rw [hmm] at k1 k5 hgl p1 hcg hPk hcell
     simp only [hx, hmm, hzs] at cs
     unfold boxC at b1 q1 hp hpl c0 c1 z1 hpg hPL hPk g3 k3 cp cs hcg hP hgl2
     rw [hnn] at c1
     have HPL := Lib.hid (And.intro hPL (And.intro hnd (And.intro hl1 hl2)))
     have HIN := Lib.hid (And.intro hins (And.intro hok hflat))
     have HX := Lib.hid (And.intro hgk (And.intro hbk (And.intro hnn (And.intro hmm hL))))
     have HG := Lib.hid (And.intro g3 (And.intro g4 (And.intro g2 (And.intro hcell hp))))
     have HK := Lib.hid (And.intro k3 (And.intro k4 (And.intro k5 (And.intro k2 hPk))))
     have HM0 := Lib.hid M0
     have HSF := Lib.hid hself
     have CP := Lib.hid cp
     have CS := Lib.hid cs
     have hk100 : n ≤ 900 := by omega
     have g2' := g2
     have k2' := k2
     unfold maxLen at g2' k2'
     have hpw : p < w.heap.size := M0.lt p hself
     clear cm hres M0 M hself hPL hnd hl1 hl2 hins hok hflat hgk hbk hnn hmm hL g3 g4 g2 hcell hp k3 k4 k5 k2 hPk cp cs hP hpg ok f1 f2 f3 p2 p3 hgr hx hzs h0 hk hat hu hn hmany
     unfold ceVal at CM CP CS ⊢
     go_enter Tryz.func60, Tryz.ntmps60
     go_wp2_with fail
     obtain ⟨y0, y1, y2⟩ := q1.cell
     obtain ⟨w1, hw1⟩ : ∃ w1, w.alloc (.cells #[.string ⟨c.k.toArray⟩, .int .i64 c.q, .string ⟨c.v.toArray⟩] 38) = w1 := ⟨_, rfl⟩
     rw [hw1] at b1 q1 hpl c0 c1 z1 hcg y0 y1 y2 CP CS HPL HG HK hgl2 ⊢
     clear hw1
     go_wp2_with fail
     refine (CM.out _).mono ?_
     rintro e w2 ⟨rfl, b2⟩
     have lt1 := q1.lt
     have hc1 := c1
     have c1 := (b2.cell (p := ⟨p, 1, none⟩) hpl).trans hc1
     have q2 := q1.later b2 lt1
     clear y0 y1 y2 CM c0
     obtain ⟨y0, y1, y2⟩ := q2.cell
     go_wp2_with fail
     refine (CP.out _ b2).mono ?_
     rintro e w3 ⟨rfl, b3⟩
     have b13 := btP b2 b3
     have c1 := (b13.cell (p := ⟨p, 1, none⟩) hpl).trans hc1
     have cg := (b13.cell (p := ⟨g, k, none⟩) hgl2).trans hcg
     have q3 := q1.later b13 lt1
     clear y0 y1 y2 q2 b2 b3 CP
     obtain ⟨y0, y1, y2⟩ := q3.cell
     have hpl3 : p < w3.heap.size := Nat.lt_of_lt_of_le hpl b13.size
     have hgl3 : g < w3.heap.size := Nat.lt_of_lt_of_le hgl2 b13.size
     have lt3 := q3.lt
     by_cases hs : at' < m ∧ sameC x c = true
     · have cs := fun ex => CS.out true (by simp [hs]) (w3.more ex) (b13.trans ((World.below_more w3 ex).mono b13.size))
       have CS2 := Lib.hid cs
       have hsame : insC c L = L := by
        have h1 := HIN.out.2.2
        rw [HIN.out.1, if_pos hs, List.flatten_append, List.flatten_append, partG_flat] at h1
        have h2 := flat_split (gs := gs) (k := k) (by rw [HX.out.2.2.1]; exact hkn)
        rw [HX.out.1, HX.out.2.2.2.2] at h2
        rw [← h1, h2, List.append_assoc]
       have HSAME := Lib.hid hsame
       clear hs cs hsame CS
       go_upto_region 9 with fail
       refine wp_region_more (by kernel_rfl) (by kernel_rfl) ?_
       repeat (go_big_quiet_step (fail))
       go_big_quiet_step (exact Calls.more (CS2.out _))
       repeat (go_big_quiet_step (fail))
       refine wpQuiet_nil ?_
       rintro _ ⟨ex, rfl⟩
       have B := b1.trans ((b13.trans ((World.below_more w3 ex).mono b13.size)).mono b1.size)
       go_wp2_with fail
       go_ret
       exact ⟨rfl, fs, by rw [HSAME.out]; exact HM0.out.later B, fun x hx => .inl hx, Fr.of_below B⟩
     · have cs := fun ex => CS.out false (by simp [hs]) (w3.more ex) (b13.trans ((World.below_more w3 ex).mono b13.size))
       have CS2 := Lib.hid cs
       have hnew := HIN.out.1
       rw [if_neg hs] at hnew
       have HNEW := Lib.hid hnew
       clear hs cs hnew CS
       go_upto_region 9 with fail
       refine wp_region_more (by kernel_rfl) (by kernel_rfl) ?_
       repeat (go_big_quiet_step (fail))
       go_big_quiet_step (exact Calls.more (CS2.out _))
       repeat (go_big_quiet_step (fail))
       refine wpQuiet_nil ?_
       rintro _ ⟨ex, rfl⟩
       have b14 := b13.trans ((World.below_more w3 ex).mono b13.size)
       obtain ⟨w4, hw4⟩ : ∃ w4, w3.more ex = w4 := ⟨_, rfl⟩
       rw [hw4] at b14 ⊢
       clear hw4 y0 y1 y2 c1 cg CS2
       go_upto_region 12 with fail
       have c1 := (b14.cell (p := ⟨p, 1, none⟩) hpl).trans hc1
       have cg := (b14.cell (p := ⟨g, k, none⟩) hgl2).trans hcg
       have q4 := q1.later b14 lt1
       obtain ⟨y0, y1, y2⟩ := q4.cell
       have hpl4 : p < w4.heap.size := Nat.lt_of_lt_of_le hpl b14.size
       have hgl4 : g < w4.heap.size := Nat.lt_of_lt_of_le hgl2 b14.size
       have lt4 := q4.lt
       have hbk4 : w4.heap[bk]? = some (.cells curk 38 (0, 0)) := (b14.block bk (Go.ltA HK.out.1)).trans HK.out.1
       have hbkl : bk < w4.heap.size := (Go.ltA hbk4)
       have ci := insert_any bk m capk at' curk gk c w4.heap.size (w4.drew.alloc (.cells #[.string ⟨c.k.toArray⟩, .int .i64 c.q, .string ⟨c.v.toArray⟩] 38)) HX.out.2.2.2.1 p1 k1 (by omega) HK.out.2.2.2.1
        ((Below.heap_alloc w4.drew _ bk hbkl).trans hbk4) HK.out.2.1 HK.out.2.2.1 (heap_alloc_new w4.drew _) (by omega)
       have CI := Lib.hid ci
       have hbk4' := hbk4
       have HBK := Lib.hid hbk4
       clear ci hbk4 hbk4'
       have hnep : p ≠ bk := fun e => by
        have h1 := HG.out.2.2.2.2
        rw [e, HK.out.1] at h1
        simp at h1
       have hneg : g ≠ bk := fun e => by
        have h1 := HG.out.1
        rw [e, HK.out.1] at h1
        simp at h1
       have hnpg : p ≠ g := fun e => by
        have h1 := HG.out.2.2.2.2
        rw [e, HG.out.1] at h1
        simp at h1
       have HNE := Lib.hid (And.intro hnep (And.intro hneg hnpg))
       have fr0 : Fr [bk] w4 (w4.drew.alloc (.cells #[.string ⟨c.k.toArray⟩, .int .i64 c.q, .string ⟨c.v.toArray⟩] 38)) := (drew_fr (Fr.refl _ _)).alloc _
       have FR0 := Lib.hid fr0
       clear hnep hneg hnpg fr0
       go_cut [8] (fun v wx => ∃ b' cap', v = .slice (some ⟨b', 0, none⟩) (m + 1) cap' ∧ Hid (PageAt (.slice (some ⟨b', 0, none⟩) (m + 1) cap') (gk.take at' ++ c :: gk.drop at') b' wx ∧ (b' = bk ∨ w4.heap.size ≤ b') ∧ Fr [bk] w4 wx))
       case first =>
        go_region_with ((go_at_call 85; refine CI.out.mono ?_; rintro e w5 ⟨b', cap', rfl, hP', hb', fr⟩))
        all_goals
         have hb2 : b' = bk ∨ w4.heap.size ≤ b' := by
          rcases hb' with h | h
          · exact .inl h
          · right; have : w4.heap.size ≤ (w4.drew.alloc (.cells #[.string ⟨c.k.toArray⟩, .int .i64 c.q, .string ⟨c.v.toArray⟩] 38)).heap.size := FR0.out.size; omega
         have HH := Lib.hid (And.intro hP' (And.intro hb2 (FR0.out.trans fr (by simp))))
         clear hP' hb' fr hb2
         go_wp2_with fail
         go_meet
         exact ⟨b', cap', rfl, HH⟩
       case' rest => skip
       obtain ⟨b', cap', rfl, HI⟩ := hcut
       clear CI y0 y1 y2 c1 cg FR0 HBK
       have fc := HI.out.2.2
       have hpc : wc.heap[p]? = some (.cells #[.bool true, .slice (some ⟨g, 0, none⟩) n cap] 109 (0, 0)) := by
        have h1 := HG.out.2.2.2.2
        rw [HX.out.2.2.1] at h1
        exact (fc.block p hpl4 (by simpa using HNE.out.1)).trans ((b14.block p hpl).trans h1)
       have hgc : wc.heap[g]? = some (.cells cur 134 (0, 0)) := (fc.block g hgl4 (by simpa using HNE.out.2.1)).trans ((b14.block g hgl2).trans HG.out.1)
       obtain ⟨-, c1, z1, -⟩ := Mem.cells hpc
       have cg : wc.cell? ⟨g, k, none⟩ = some (.slice (some ⟨bk, 0, none⟩) m capk) := by rw [World.cell?]; simp only [hgc]; exact HG.out.2.2.2.1
       have zg : wc.frozen? ⟨g, k, none⟩ = false := by simp [World.frozen?, hgc]
       have HPC := Lib.hid hpc
       have HGC := Lib.hid hgc
       have hplc : p < wc.heap.size := (Go.ltA hpc)
       have hglc : g < wc.heap.size := (Go.ltA hgc)
       clear fc hpc hgc
       go_upto_region 14 with fail
       have hset := heap_setCell_same wc g k _ _ (.slice (some ⟨b', 0, none⟩) (m + 1) cap') HGC.out
       have hb'g : b' ≠ g := by
        rcases HI.out.2.1 with h | h
        · rw [h]; exact fun e => HNE.out.2.1 e.symm
        · omega
       have hpw6 : (wc.setCell ⟨g, k, none⟩ (.slice (some ⟨b', 0, none⟩) (m + 1) cap')).heap[p]? = some (.cells #[.bool true, .slice (some ⟨g, 0, none⟩) n cap] 109 (0, 0)) := (heap_setCell_other wc ⟨g, k, none⟩ p _ HNE.out.2.2).trans HPC.out
       have hpage6 : PageAt (.slice (some ⟨b', 0, none⟩) (m + 1) cap') (gk.take at' ++ c :: gk.drop at') b' (wc.setCell ⟨g, k, none⟩ (.slice (some ⟨b', 0, none⟩) (m + 1) cap')) := HI.out.1.same (heap_setCell_other wc ⟨g, k, none⟩ b' _ hb'g)
       have hbkm : bk ∈ bs := by rw [← HX.out.2.1]; exact getD_in (by rw [HPL.out.2.2.2, HX.out.2.2.1]; exact hkn)
       have F6 : Fr fs w (wc.setCell ⟨g, k, none⟩ (.slice (some ⟨b', 0, none⟩) (m + 1) cap')) := ((Fr.of_below (S := fs) (b1.trans (b14.mono b1.size))).trans HI.out.2.2 (by intro x hx; simp only [List.mem_singleton] at hx; subst hx; left; rw [hfs]; simp [hbkm])).set ⟨g, k, none⟩ (.inl (by rw [hfs]; simp)) _
       have hw16 : w1.heap.size ≤ (wc.setCell ⟨g, k, none⟩ (.slice (some ⟨b', 0, none⟩) (m + 1) cap')).heap.size := by
        have h1 := Nat.le_trans b14.size HI.out.2.2.size
        simpa [World.setCell] using h1
       have hkeep : ∀ b ∈ bs, b ≠ bs.getD k 0 → (wc.setCell ⟨g, k, none⟩ (.slice (some ⟨b', 0, none⟩) (m + 1) cap')).heap[b]? = w1.heap[b]? := fun b hb hne => by
        rw [HX.out.2.1] at hne
        have hlt := HPL.out.1.lt b hb
        have hbg : b ≠ g := fun e => by
         obtain ⟨cb, hcb⟩ := HPL.out.1.ty b hb
         rw [e, HG.out.1] at hcb
         simp at hcb
        exact (heap_setCell_other wc ⟨g, k, none⟩ b _ hbg).trans ((HI.out.2.2.block b (Nat.lt_of_lt_of_le hlt b14.size) (by simpa using hne)).trans (b14.block b hlt))
       have hV : (cur.setIfInBounds k (.slice (some ⟨b', 0, none⟩) (m + 1) cap')).toList.take n = (cur.toList.take n).take k ++ ([.slice (some ⟨b', 0, none⟩) (m + 1) cap'] ++ (cur.toList.take n).drop (k + 1)) := set_take _ hkn (by rw [HG.out.2.1]; exact g1)
       have hsz6 : (cur.setIfInBounds k (.slice (some ⟨b', 0, none⟩) (m + 1) cap')).size = cap := by rw [Array.size_setIfInBounds]; exact HG.out.2.1
       have hbnew : b' = bs.getD k 0 ∨ b' ∉ bs := by
        rcases HI.out.2.1 with h | h
        · left; rw [HX.out.2.1]; exact h
        · right; intro hm; have := HPL.out.1.lt b' hm; have := b14.size; omega
       have hbold : b' ∈ fs ∨ w.heap.size ≤ b' := by
        rcases HI.out.2.1 with h | h
        · left; rw [hfs, h]; simp [hbkm]
        · right; have h1 := b14.size; have h2 := b1.size; omega
       obtain ⟨w6, hw6⟩ : ∃ w6, wc.setCell ⟨g, k, none⟩ (.slice (some ⟨b', 0, none⟩) (m + 1) cap') = w6 := ⟨_, rfl⟩
       rw [hw6] at hset hpw6 hpage6 F6 hkeep hw16 ⊢
       clear hw6 HI HPC HGC c1 z1 cg zg hplc hglc
       obtain ⟨cur6, hc6⟩ : ∃ cur6, cur.setIfInBounds k (.slice (some ⟨b', 0, none⟩) (m + 1) cap') = cur6 := ⟨_, rfl⟩
       rw [hc6] at hset hV hsz6
       have HA := Lib.hid (And.intro hset (And.intro hpw6 (And.intro hpage6 (And.intro F6 hkeep))))
       have HB := Lib.hid (And.intro hV (And.intro hsz6 (And.intro hbnew (And.intro hbold hbkm))))
       clear hset hpw6 hpage6 F6 hkeep hV hsz6 hbnew hbold hbkm hc6
       by_cases hfull : m + 1 ≤ 16
       · go_wp2_with fail
         go_ret
         refine ⟨rfl, p :: g :: (bs.take k ++ ([b'] ++ bs.drop (k + 1))), ?_, ?_, HA.out.2.2.2.1⟩
         · have hlen1 : (gk.take at' ++ c :: gk.drop at').length = m + 1 := by rw [in_length gk at' c (by rw [HX.out.2.2.2.1]; exact p1), HX.out.2.2.2.1]
           have hpart : partG (insC c gk) = [gk.take at' ++ c :: gk.drop at'] := by
            rw [HNEW.out]
            unfold partG
            rw [if_neg (by rw [hlen1]; omega)]
           have hok := HIN.out.2.1
           have hfl := HIN.out.2.2
           rw [hpart, List.append_assoc] at hok hfl
           rw [← hfl]
           have hPL0 := HPL.out.1
           rw [HX.out.2.2.1] at hPL0
           have hPL6 := page_put (vs' := [.slice (some ⟨b', 0, none⟩) (m + 1) cap']) (gs' := [gk.take at' ++ c :: gk.drop at']) (bs' := [b']) hPL0 HPL.out.2.1 (by rw [HX.out.2.2.1]; exact hkn) HA.out.2.2.2.2 ⟨HA.out.2.2.1, trivial⟩
           rw [← HB.out.1] at hPL6
           refine mem_of (N := n) ?_ HA.out.2.1 (by omega) g1 HG.out.2.2.1 HA.out.1 HB.out.2.1 (by simpa using nodup_put HPL.out.2.1 (by rw [HPL.out.2.2.2, HX.out.2.2.1]; exact hkn) HB.out.2.2.1) hPL6 hok
           have hnn := HX.out.2.2.1
           rw [List.length_append, List.length_append, List.length_take, List.length_drop, hnn]
           simp
           omega
         · intro x hx
           rcases List.mem_cons.1 hx with rfl | hx
           · left; rw [hfs]; simp
           · rcases List.mem_cons.1 hx with rfl | hx
             · left; rw [hfs]; simp
             · rcases List.mem_append.1 hx with hx | hx
               · left; rw [hfs]; simp [List.mem_of_mem_take hx]
               · rcases List.mem_append.1 hx with hx | hx
                 · simp only [List.mem_singleton] at hx
                   rw [hx]; exact HB.out.2.2.2.1
                 · left; rw [hfs]; simp [List.mem_of_mem_drop hx]
       · obtain ⟨hlen1, hnc', hcap'⟩ := HA.out.2.2.1.caps
         have c1 : w6.cell? ⟨p, 1, none⟩ = some (.slice (some ⟨g, 0, none⟩) n cap) := (Mem.cells HA.out.2.1).2.1
         have cpt := fun W (hb : Below w6.heap.size w6 W) => parted_any b' (m + 1) cap' (gk.take at' ++ c :: gk.drop at') W hlen1 (by omega) (by omega) hnc' hcap' (HA.out.2.2.1.same (hb.block b' HA.out.2.2.1.lt))
         have hPL0 := HPL.out.1
         rw [HX.out.2.2.1] at hPL0
         have hkbs : k < bs.length := by rw [HPL.out.2.2.2, HX.out.2.2.1]; exact hkn
         have hPL6 := page_put (vs' := [.slice (some ⟨b', 0, none⟩) (m + 1) cap']) (gs' := [gk.take at' ++ c :: gk.drop at']) (bs' := [b']) hPL0 HPL.out.2.1 (by rw [HX.out.2.2.1]; exact hkn) HA.out.2.2.2.2 ⟨HA.out.2.2.1, trivial⟩
         rw [← HB.out.1] at hPL6
         have hgl6 : g < w6.heap.size := (Go.ltA HA.out.1)
         have hpl6 : p < w6.heap.size := (Go.ltA HA.out.2.1)
         have crp := fun W vg u1 u2 (hb : Below w6.heap.size w6 W) (hv : W.heap[vg]? = some (.cells #[u1, u2] 134 (0, 0))) (h1 : u1.oneCell' = true) (h2 : u2.oneCell' = true) (hvg : vg ≠ g) =>
          replace_any g n cap k hkn cur6 vg u1 u2 W (by omega) g1 HG.out.2.2.1 ((hb.block g hgl6).trans HA.out.1) HB.out.2.1 hv h1 h2 hPL6.one hvg
         have CPT := Lib.hid cpt
         have CRP := Lib.hid crp
         have HL6 := Lib.hid (And.intro hlen1 (And.intro hPL0 hkbs))
         clear cpt crp hPL6 hPL0 hlen1 hkbs
         go_upto_region 15 with fail
         have e1 : IntKind.i64.wrap ((k : Int) + 1) = (k : Int) + 1 := by rw [IntKind.wrap_i64]; omega
         go_region_with (first
          | (go_at_call 87; refine (CPT.out _ (Below.drew (Below.refl _ _))).mono ?_; rintro e w7 ⟨b7, vg, b2, cap2, rfl, HV⟩; have HV := Lib.hid HV; have B7 : Below w6.heap.size w6 w7 := (Below.drew (Below.refl w6.heap.size w6)).trans b7; have c7 := (B7.cell (p := ⟨p, 1, none⟩) hpl6).trans c1; clear b7)
          | (go_at_call 86; refine (CRP.out _ vg _ _ B7 HV.out.2.2.1 rfl rfl (Nat.ne_of_gt (Nat.lt_of_lt_of_le hgl6 HV.out.1))).mono ?_; rintro e w8 ⟨g', C', cur', rfl, HR⟩; have HR := Lib.hid HR; have c8 := (Mem.cells ((HR.out.2.2.2.2.2.2.block p (Nat.lt_of_lt_of_le hpl6 B7.size) (by simpa using HNE.out.2.2)).trans ((B7.block p hpl6).trans HA.out.2.1))).2.1; have z8 := (Mem.cells ((HR.out.2.2.2.2.2.2.block p (Nat.lt_of_lt_of_le hpl6 B7.size) (by simpa using HNE.out.2.2)).trans ((B7.block p hpl6).trans HA.out.2.1))).2.2.1))
         all_goals
          go_wp2_with fail
          go_ret
          refine ⟨rfl, ?_⟩
          have hV1 : (cur.toList.take n).length = n := by
           have h1 : cur.toList.length = cur.size := Array.length_toList
           have h2 := HG.out.2.1
           rw [List.length_take]
           omega
          have hm16 : 16 ≤ m := by clear hV1; omega
          have hv1 : w6.heap.size ≤ b2 := HV.out.2.1
          clear e1 c1 c7 c8 z8 hk100 g2' k2' hpw hnc' hcap' hfull
          exact put_two (V := cur.toList.take n) (cur6 := cur6) (cur' := cur') (l' := gk.take at' ++ c :: gk.drop at') (b' := b') (b2 := b2) (cap2 := cap2) (cap' := cap') (g := g) (g' := g') (C' := C') (cap := cap) (k := k) (n := n) (m := m) (bs := bs) (fs := fs) (w := w) (w6 := w6) (w8 := w8) (gs := gs) (c := c) (gk := gk) (w1 := w1) (w7 := w7) (L := insC c L) HX.out.2.2.1 hkn HL6.out.1 hm16 hw16 HL6.out.2.1 hV1 HPL.out.2.1 hfs HA.out.1 HA.out.2.1 HA.out.2.2.1 HA.out.2.2.2.1 HA.out.2.2.2.2 HB.out.1 HB.out.2.2.1 HB.out.2.2.2.1 HNEW.out HIN.out.2.1 HIN.out.2.2
           B7 hv1 HV.out.2.2.2 HR.out.1 HR.out.2.1 HR.out.2.2.1 HR.out.2.2.2.1 HR.out.2.2.2.2.1 HR.out.2.2.2.2.2.1 HR.out.2.2.2.2.2.2
end Go.Proofs.YtoglloafpnopaaaGreat
