/- Build, the program's. -/
import Derived.Test.YtoglloafpnopaaaGreatTI
set_option linter.unusedSimpArgs false
set_option linter.unusedVariables false
namespace Go.Proofs.YtoglloafpnopaaaGreat
set_option maxRecDepth 16000
open Go.RowKit Spoor
def buildV (l : List Ce) : Value := if sortedB l = true then (if 4096 < l.length then .tuple #[.string ⟨#[]⟩, .int .i64 3] else .tuple #[.string ⟨(tableB l).toArray⟩, .int .i64 0]) else .tuple #[.string ⟨#[]⟩, .int .i64 2]
def Bd2 (bd bi : Nat) (D I : List UInt8) (w0 W : World) : Prop := ∃ fs gs, BldF bd D fs W ∧ BldF bi I gs W ∧ (∀ x ∈ fs, (x = bd ∨ w0.heap.size ≤ x) ∧ x ∉ gs) ∧ (∀ x ∈ gs, x = bi ∨ w0.heap.size ≤ x) ∧ (D = [] → W.heap[bd]? = some (.cells #[.pointer none, .slice none 0 0] 75 (0, 0))) ∧ Fr [bd, bi] w0 W
theorem Bd2.later {bd bi : Nat} {D I : List UInt8} {w0 W W' : World} (h : Bd2 bd bi D I w0 W) (hb : Below W.heap.size W W') : Bd2 bd bi D I w0 W' := by
 obtain ⟨fs, gs, h1, h2, h3, h4, h5, h6⟩ := h
 exact ⟨fs, gs, h1.later hb, h2.later hb, h3, h4, fun e => (hb.block bd (h1.2.1 bd h1.1)).trans (h5 e), h6.trans (T := []) (Fr.of_below hb) (by simp)⟩
theorem Bd2.frame {bd bi : Nat} {D I : List UInt8} {w0 W : World} (h : Bd2 bd bi D I w0 W) : Fr [bd, bi] w0 W := by
 obtain ⟨fs, gs, h1, h2, h3, h4, h5, h6⟩ := h
 exact h6
theorem Bd2.data {bd bi : Nat} {D I : List UInt8} {w0 W1 W : World} (h : Bd2 bd bi D I w0 W1) (hb : Below W1.heap.size W1 W) (s : List UInt8) (hs : s ≠ []) (hlen : D.length + s.length ≤ 140737488355328) :
 Calls Tryz.prog 32 #[.pointer (some ⟨bd, 0, none⟩), .string ⟨s.toArray⟩] W fun e W' => e = .returned (.tuple #[.int .i64 s.length, .nilIface]) ∧ Bd2 bd bi (D ++ s) I w0 W' ∧ ∀ q, W1.heap.size ≤ q → q < W.heap.size → W'.heap[q]? = W.heap[q]? := by
 obtain ⟨fs, gs, h1, h2, h3, h4, h5, h6⟩ := h
 have hlt := h1.2.1
 have h2' := h2.later hb
 have h6' : Fr [bd, bi] w0 W := h6.trans (T := []) (Fr.of_below hb) (by simp)
 refine (writeF_any bd D fs s W (h1.later hb) hlen).mono ?_
 rintro e W' ⟨rfl, fs', B', k1, f⟩
 refine ⟨rfl, ⟨fs', gs, B', h2'.fr f (fun x hx hm => (h3 x hm).2 hx), fun x hx => ?_, h4, fun e => absurd (List.append_eq_nil_iff.1 e).2 hs, h6'.trans f (fun x hx => ?_)⟩, fun q hq1 hq2 => f.block q hq2 (fun hm => by have := hlt q hm; omega)⟩
 · rcases k1 x hx with h | h
   · exact h3 x h
   · exact ⟨.inr (Nat.le_trans h6'.size h), fun hm => by have := h2'.2.1 x hm; omega⟩
 · rcases (h3 x hx).1 with rfl | h
   · exact .inl (by simp)
   · exact .inr h
theorem Bd2.index {bd bi : Nat} {D I : List UInt8} {w0 W : World} (h : Bd2 bd bi D I w0 W) (s : List UInt8) (hlen : I.length + s.length ≤ 140737488355328) :
 Calls Tryz.prog 32 #[.pointer (some ⟨bi, 0, none⟩), .string ⟨s.toArray⟩] W fun e W' => e = .returned (.tuple #[.int .i64 s.length, .nilIface]) ∧ Bd2 bd bi D (I ++ s) w0 W' := by
 obtain ⟨fs, gs, h1, h2, h3, h4, h5, h6⟩ := h
 refine (writeF_any bi I gs s W h2 hlen).mono ?_
 rintro e W' ⟨rfl, gs', B', k1, f⟩
 refine ⟨rfl, fs, gs', h1.fr f (fun x hx => (h3 x hx).2), B', fun x hx => ⟨(h3 x hx).1, fun hm => ?_⟩, fun x hx => ?_, fun e => ?_, h6.trans f (fun x hx => ?_)⟩
 · rcases k1 x hm with h | h
   · exact (h3 x hx).2 h
   · have := h1.2.1 x hx
     omega
 · rcases k1 x hx with h | h
   · exact h4 x h
   · exact .inr (Nat.le_trans h6.size h)
 · exact (f.block bd (h1.2.1 bd h1.1) (h3 bd h1.1).2).trans (h5 e)
 · rcases h4 x hx with rfl | h
   · exact .inl (by simp)
   · exact .inr h
def Br2 (bd bi : Nat) (D I : List UInt8) (w0 W : World) : Prop := ∃ fs gs, BldR bd D fs W ∧ BldR bi I gs W ∧ (∀ x ∈ fs, (x = bd ∨ w0.heap.size ≤ x) ∧ x ∉ gs) ∧ (∀ x ∈ gs, x = bi ∨ w0.heap.size ≤ x) ∧ Fr [bd, bi] w0 W
theorem Br2.of {bd bi : Nat} {D I : List UInt8} {w0 W : World} (h : Bd2 bd bi D I w0 W) (hI : I ≠ []) : Br2 bd bi D I w0 W := by
 obtain ⟨fs, gs, h1, h2, h3, h4, h5, h6⟩ := h
 refine ⟨fs, gs, BldR.of h1 ?_, BldR.of h2 (.inl hI), h3, h4, h6⟩
 by_cases hD : D = []
 · refine .inr fun p v hb => ?_
   rw [h5 hD] at hb
   injection hb with hb
   injection hb with hb
   simp at hb
   exact hb.2.symm
 · exact .inl hD
theorem Br2.later {bd bi : Nat} {D I : List UInt8} {w0 W W' : World} (h : Br2 bd bi D I w0 W) (hb : Below W.heap.size W W') : Br2 bd bi D I w0 W' := by
 obtain ⟨fs, gs, h1, h2, h3, h4, h6⟩ := h
 exact ⟨fs, gs, h1.later hb, h2.later hb, h3, h4, h6.trans (T := []) (Fr.of_below hb) (by simp)⟩
theorem Br2.frame {bd bi : Nat} {D I : List UInt8} {w0 W : World} (h : Br2 bd bi D I w0 W) : Fr [bd, bi] w0 W := by
 obtain ⟨fs, gs, h1, h2, h3, h4, h6⟩ := h
 exact h6
theorem Br2.data {bd bi : Nat} {D I : List UInt8} {w0 W : World} (h : Br2 bd bi D I w0 W) :
 Calls Tryz.prog 37 #[.pointer (some ⟨bd, 0, none⟩)] W fun e W' => e = .returned (.string ⟨D.toArray⟩) ∧ Br2 bd bi D I w0 W' := by
 obtain ⟨fs, gs, h1, h2, h3, h4, h6⟩ := h
 refine (strF_any bd D fs W h1).mono ?_
 rintro e W' ⟨rfl, B', f⟩
 refine ⟨rfl, fs, gs, B', h2.fr f (fun x hx hm => (h3 x hm).2 hx), h3, h4, h6.trans f (fun x hx => ?_)⟩
 rcases (h3 x hx).1 with rfl | h
 · exact .inl (by simp)
 · exact .inr h
theorem Br2.index {bd bi : Nat} {D I : List UInt8} {w0 W : World} (h : Br2 bd bi D I w0 W) :
 Calls Tryz.prog 37 #[.pointer (some ⟨bi, 0, none⟩)] W fun e W' => e = .returned (.string ⟨I.toArray⟩) ∧ Br2 bd bi D I w0 W' := by
 obtain ⟨fs, gs, h1, h2, h3, h4, h6⟩ := h
 refine (strF_any bi I gs W h2).mono ?_
 rintro e W' ⟨rfl, B', f⟩
 refine ⟨rfl, fs, gs, h1.fr f (fun x hx => (h3 x hx).2), B', h3, h4, h6.trans f (fun x hx => ?_)⟩
 rcases h4 x hx with rfl | h
 · exact .inl (by simp)
 · exact .inr h
theorem Br2.len {bd bi : Nat} {D I : List UInt8} {w0 W : World} (h : Br2 bd bi D I w0 W) :
 Calls Tryz.prog 39 #[.pointer (some ⟨bd, 0, none⟩)] W fun e W' => e = .returned (.int .i64 D.length) ∧ W' = W := by
 obtain ⟨fs, gs, h1, h2, h3, h4, h6⟩ := h
 exact lenF_any bd D fs W h1
theorem BksAt.zero {lo : Nat} {v : Value} {gs : List (List Ce)} {w : World} (h : BksAt lo v gs w) : BksAt 0 v gs w := by
 obtain ⟨A, cap, e, h1, h2, hz, h3⟩ := h
 refine ⟨A, cap, e, h1, h2, hz, fun h0 => ?_⟩
 obtain ⟨g, e2, hl, hg, hc⟩ := h3 h0
 exact ⟨g, e2, Nat.zero_le _, hg, fun i hi => by obtain ⟨c1, s, b, c2, c3, c4⟩ := hc i hi; exact ⟨c1, s, b, c2, Nat.zero_le _, c4⟩⟩
theorem bytes_cat (a b : List UInt8) : (⟨a.toArray⟩ : ByteArray) ++ ⟨b.toArray⟩ = ⟨(a ++ b).toArray⟩ := ByteArray.mk_append_mk a b
theorem putTextL_any (s : List UInt8) (w : World) (hs : s.length ≤ 140737488355328) :
 Calls Tryz.prog 36 #[.string ⟨s.toArray⟩] w fun e w' => e = .returned (.string ⟨(putText s).toArray⟩) ∧ Below w.heap.size w w' := by
 have h := putText_any ⟨s.toArray⟩ w (by simpa [ByteArray.size] using hs)
 simpa using h
theorem dataG_snoc (gs : List (List Ce)) (g : List Ce) : dataG (gs ++ [g]) = dataG gs ++ dataOf g := by simp [dataG]
theorem idxG_snoc (gs : List (List Ce)) (g : List Ce) : idxG (gs ++ [g]) = idxG gs ++ idxOf g := by simp [idxG]
theorem take_gs (gs : List (List Ce)) (k : Nat) (h : k < gs.length) : gs.take (k + 1) = gs.take k ++ [gs.getD k []] := by
 rw [List.take_succ_eq_append_getElem h]
 simp [List.getD, h]
theorem okG_take : ∀ {gs : List (List Ce)} {k : Nat}, (∀ g ∈ gs, BlkOk g ∧ g.length ≤ 4) → (dataG (gs.take k)).length ≤ 925 * k ∧ (idxG (gs.take k)).length ≤ 82 * k
 | gs, 0, _ => by simp [dataG, idxG]
 | gs, k + 1, h => by
   by_cases hk : k < gs.length
   · obtain ⟨i1, i2⟩ := okG_take (k := k) h
     obtain ⟨⟨h0, h1, h2, h3⟩, h4⟩ := h (gs.getD k []) (getD_mem' hk)
     have hbl := blockB_len h1 h3 h2
     have hkl : (keyG (gs.getD k [])).length ≤ 64 := by
      obtain ⟨c, l, e, ek⟩ := keyG_head h0
      rw [ek]
      exact (may_of (sorted_may h1 c (by rw [e]; simp))).2.1
     have p1 := put_length9 (keyG (gs.getD k [])).length (by omega)
     have p2 := put_length9 (blockB (gs.getD k [])).length (by omega)
     rw [take_gs gs k hk, dataG_snoc, idxG_snoc]
     simp only [List.length_append, dataOf, idxOf, putText, sumB_length]
     omega
   · obtain ⟨i1, i2⟩ := okG_take (k := k) h
     rw [List.take_of_length_le (by omega)] at i1 i2 ⊢
     omega
theorem fours_small {l : List Ce} (hs : sortedB l = true) (hq : ∀ c ∈ l, c.q ≤ 9223372036854775807) : ∀ g ∈ fours l, BlkOk g ∧ g.length ≤ 4 := by
 intro g hg
 refine ⟨fours_blk hs hq g hg, ?_⟩
 obtain ⟨i, hi, rfl⟩ := List.getElem_of_mem hg
 have h := fours_get l i (by rw [← fours_length]; exact hi)
 have e : (fours l).getD i [] = (fours l)[i] := by simp [List.getD, hi]
 rw [e] at h
 rw [h, List.length_take]
 omega
set_option maxRecDepth 100000 in
set_option maxHeartbeats 8000000 in
theorem buildT_any (s : Value) (l : List Ce) (w : World) (hs : SlAt s l w) (hf : ∀ c ∈ l, FitsC c) (hbig : l.length ≤ 100000) :
 Calls Tryz.prog 17 #[s] w fun e w' => e = .returned (buildV l) ∧ Below w.heap.size w w' := by
 have cs := sortedBl_any s l w hs hf
 unfold buildV
 cases hso : sortedB l with
 | false =>
   rw [hso] at cs
   have CS := Lib.hid cs
   clear cs hs hf
   rw [if_neg (by simp)]
   go_enter Tryz.func17, Tryz.ntmps17
   go_wp2_with fail
   refine CS.out.mono ?_
   rintro e w1 ⟨rfl, b1⟩
   go_wp2_with fail
   go_ret2
   exact ⟨rfl, b1⟩
 | true =>
   rw [hso] at cs
   rw [if_pos rfl]
   by_cases hlong : 4096 < l.length
   · rw [if_pos hlong]
     obtain ⟨A, cap, rfl, -⟩ := hs
     have hlz : (4096 : Int) < (l.length : Int) := by omega
     have CS := Lib.hid cs
     clear cs hf
     generalize l.length = n at *
     go_enter Tryz.func17, Tryz.ntmps17
     go_wp2_with fail
     refine CS.out.mono ?_
     rintro e w1 ⟨rfl, b1⟩
     go_wp2_with fail
     go_ret2
     exact ⟨rfl, b1⟩
   · rw [if_neg hlong]
     have hq : ∀ c ∈ l, c.q ≤ 9223372036854775807 := fun c hc => (hf c hc).2.2
     have htl := table_len hso hq hbig
     have pt := fun W (hb : Below w.heap.size w W) => partedT_any s l W (hs.later hb) hbig
     have PT := Lib.hid pt
     have hgl := fours_length l
     have hsm := fours_small hso hq
     have hfl := fours_flat l
     have hfit : ∀ k, k < (fours l).length → ∀ c ∈ (fours l).getD k [], FitsC c := fun k hk c hc => hf c (by rw [← fours_flat l]; exact List.mem_flatten.2 ⟨_, getD_mem' hk, hc⟩)
     have hlz : ¬ (4096 : Int) < (l.length : Int) := by omega
     have HT0 := Lib.hid (show tableB l = tableG (fours l) from rfl)
     obtain ⟨gs, hgs⟩ : ∃ gs, fours l = gs := ⟨_, rfl⟩
     rw [hgs] at PT htl hgl hsm hfit HT0
     have HFL := Lib.hid (show gs.flatten.length = l.length by rw [← hgs, fours_flat])
     obtain ⟨n, hn⟩ : ∃ n, gs.length = n := ⟨_, rfl⟩
     have HSM := Lib.hid hsm
     have HN := Lib.hid hn
     have HFT := Lib.hid hfit
     have CS := Lib.hid cs
     have hnb : n ≤ 2000 := by omega
     have HTL := Lib.hid htl
     rw [HT0.out]
     obtain ⟨A, cap, rfl, -⟩ := hs
     obtain ⟨N, hN⟩ : ∃ N, l.length = N := ⟨_, rfl⟩
     have HNN := Lib.hid hN
     rw [hN] at hlz CS PT ⊢
     have hNb : N ≤ 4096 := by omega
     clear cs hf hq pt hgl hsm hfl hfit hgs hn htl hN hlong hbig hso
     go_enter Tryz.func17, Tryz.ntmps17
     go_wp2_with fail
     refine CS.out.mono ?_
     rintro e w1 ⟨rfl, b1⟩
     have HB1 := Lib.hid b1
     clear CS b1
     have n1 := (Below.refl w1.heap.size w1).alloc (Nat.le_refl _) (.cells #[.pointer none, .slice none 0 0] 75)
     have n2 := n1.alloc n1.size (.cells #[.pointer none, .slice none 0 0] 75)
     have f1 := BldF.fresh w1
     have n2' := (Below.refl (w1.alloc (.cells #[.pointer none, .slice none 0 0] 75)).heap.size (w1.alloc (.cells #[.pointer none, .slice none 0 0] 75))).alloc (Nat.le_refl _) (.cells #[.pointer none, .slice none 0 0] 75)
     have f1' := f1.later n2'
     have f2 := BldF.fresh (w1.alloc (.cells #[.pointer none, .slice none 0 0] 75))
     have hsz1 : (w1.alloc (.cells #[.pointer none, .slice none 0 0] 75)).heap.size = w1.heap.size + 1 := by simp
     have hsz2 : ((w1.alloc (.cells #[.pointer none, .slice none 0 0] 75)).alloc (.cells #[.pointer none, .slice none 0 0] 75)).heap.size = w1.heap.size + 2 := by simp
     have h1b := (n2'.block w1.heap.size (by simp)).trans (heap_alloc_new w1 (.cells #[.pointer none, .slice none 0 0] 75))
     rw [hsz1] at f2
     have HB2 := Lib.hid (And.intro (And.intro f1' f2) (And.intro h1b (And.intro n2 hsz2)))
     clear n1 n2 f1 n2' f1' f2 hsz1 h1b hsz2
     go_wp2_with fail
     obtain ⟨W1, hW1⟩ : ∃ W1, (w1.alloc (.cells #[.pointer none, .slice none 0 0] 75)).alloc (.cells #[.pointer none, .slice none 0 0] 75) = W1 := ⟨_, rfl⟩
     rw [hW1] at HB2 ⊢
     clear hW1
     refine (PT.out W1 (HB1.out.trans (HB2.out.2.2.1.mono HB1.out.size))).mono ?_
     rintro e w2 ⟨v, rfl, K2, b2⟩
     have hsW := b2.size
     have B3 : Bd2 w1.heap.size (w1.heap.size + 1) [] [] w2 w2 := by
      obtain ⟨⟨f1, f2⟩, hb, -, hs⟩ := HB2.out
      refine ⟨_, _, f1.later b2, f2.later b2, fun x hx => ?_, fun x hx => ?_, fun _ => (b2.block _ (by omega)).trans hb, Fr.refl _ _⟩
      · rw [List.mem_singleton] at hx
        subst hx
        exact ⟨.inl rfl, by simp⟩
      · rw [List.mem_singleton] at hx
        exact .inl hx
     have HB3 := Lib.hid B3
     have HK := Lib.hid (fun W' (f : Fr [w1.heap.size, w1.heap.size + 1] w2 W') => (K2.same (fun k hl hk => f.block k hk (by simp; have := HB2.out.2.2.2; omega)) f.size).zero)
     have HBW := Lib.hid (show ∀ W', Fr [w1.heap.size, w1.heap.size + 1] w2 W' → Below w.heap.size w W' from fun W' f => by
      have h1 := HB1.out.size
      have h2 : Below w1.heap.size w1 w2 := HB2.out.2.2.1.trans (b2.mono (by have := HB2.out.2.2.2; omega))
      exact HB1.out.trans ((h2.trans (f.below (by have := HB2.out.2.2.2; omega) (fun x hx => by simp at hx; omega))).mono h1))
     obtain ⟨bA, bcap, rfl, k1, k2, k3⟩ := id K2
     obtain ⟨bd, hbd⟩ : ∃ bd, w1.heap.size = bd := ⟨_, rfl⟩
     obtain ⟨bi, hbi⟩ : ∃ bi, bd + 1 = bi := ⟨_, rfl⟩
     rw [hbd] at HB3 HK HBW ⊢
     rw [hbi] at HB3 HK HBW ⊢
     rw [HN.out] at k1 ⊢
     rw [HN.out] at HK
     unfold maxLen at k2
     clear HB2 b2 K2 k3 PT hbd hbi W1 B3 hsW
     go_wp2_with fail
     refine (put_nat n _ (by omega)).mono ?_
     rintro e w3 ⟨rfl, b3⟩
     have ic := (HB3.out.later b3).index (put n) (by have := put_length9 n (by omega); simp only [List.length_nil]; omega)
     rw [List.nil_append] at ic
     have IC := Lib.hid ic
     clear ic HB3 b3
     go_wp2_with fail
     refine IC.out.mono ?_
     rintro e w4 ⟨rfl, B4⟩
     have HB4 := Lib.hid B4
     clear B4 IC
     go_wp2_with fail
     go_loopw [27] (fun i wr => ∃ k : Nat, i = .int .i64 k ∧ k ≤ n ∧ Hid (Bd2 bd bi (dataG (gs.take k)) (put n ++ idxG (gs.take k)) w2 wr)) (fun i _ => n - (intOf i).toNat)
     case atStart => exact ⟨0, rfl, by omega, Lib.hid (by simpa [dataG, idxG] using HB4.out)⟩
     case round =>
      obtain ⟨k, rfl, hk, HQ⟩ := hrel
      clear HB4
      by_cases hlt : k < n
      · have hkl : k < gs.length := by rw [HN.out]; exact hlt
        obtain ⟨A', cap', e', -, -, -, hrow⟩ := HK.out _ HQ.out.frame
        obtain ⟨gb, rfl, -, -, hcells⟩ := hrow (by rw [HN.out]; omega)
        injection e' with e1 e2 e3
        subst e1
        clear e2 e3
        obtain ⟨c0, s, sb, c1, -, hP⟩ := hcells k hkl
        obtain ⟨hbk, hg4⟩ := HSM.out _ (getD_mem' hkl)
        have hfg := HFT.out k hkl
        have hlen := okG_take (k := k) HSM.out
        have hD1 := dataG_snoc (gs.take k) (gs.getD k [])
        have hI1 := idxG_snoc (gs.take k) (gs.getD k [])
        rw [← take_gs gs k hkl] at hD1 hI1
        obtain ⟨g, hg⟩ : ∃ g, gs.getD k [] = g := ⟨_, rfl⟩
        rw [hg] at c0 hP hbk hg4 hfg hD1 hI1
        obtain ⟨D, hD⟩ : ∃ D, dataG (gs.take k) = D := ⟨_, rfl⟩
        obtain ⟨I, hI⟩ : ∃ I, idxG (gs.take k) = I := ⟨_, rfl⟩
        rw [hD] at hlen hD1 HQ
        rw [hI] at hlen hI1 HQ
        have hbl := blockB_len hbk.2.1 hbk.2.2.2 hbk.2.2.1
        have hkl2 : (keyG g).length ≤ 64 := by
         obtain ⟨c, l', e, ek⟩ := keyG_head hbk.1
         rw [ek]
         exact (may_of (sorted_may hbk.2.1 c (by rw [e]; simp))).2.1
        have enc := fun W (hb : Below wr.heap.size wr W) => encodeB_any s g W (hP.sl.later hb) hfg hbk.2.1 (by omega)
        have ENC := Lib.hid enc
        have HX := Lib.hid (And.intro hD1 (And.intro hI1 (And.intro hlen (And.intro (show (blockB g).length ≤ 1000 by omega) hkl2))))
        have cat := bytes_cat
        obtain ⟨sA, scap, hsv, -⟩ := hP.sl
        obtain ⟨sn, hsn⟩ : ∃ sn, g.length = sn := ⟨_, rfl⟩
        rw [hsn] at hsv
        subst hsv
        have nb := (Below.refl wr.heap.size wr).alloc (Nat.le_refl _) (.cells #[.string ⟨(keyG g).toArray⟩, .slice sA sn scap] 84)
        have HNB := Lib.hid nb
        have y0 : ∀ W', Below (wr.heap.size + 1) (wr.alloc (.cells #[.string ⟨(keyG g).toArray⟩, .slice sA sn scap] 84)) W' → W'.cell? ⟨wr.heap.size, 0, none⟩ = some (.string ⟨(keyG g).toArray⟩) := fun W' hb => by
         have h1 := (hb.block wr.heap.size (by omega)).trans (heap_alloc_new wr (.cells #[.string ⟨(keyG g).toArray⟩, .slice sA sn scap] 84))
         simp [World.cell?, h1]
        have HY := Lib.hid y0
        have HS1 := Lib.hid (show (wr.alloc (.cells #[.string ⟨(keyG g).toArray⟩, .slice sA sn scap] 84)).heap.size = wr.heap.size + 1 by simp)
        clear hcells hrow hP hbk hg4 hfg hD1 hI1 hlen hbl hkl2 enc nb hD hI hsn hg hkl y0
        go_wp2_with fail
        refine (ENC.out _ HNB.out).mono ?_
        rintro e wa ⟨rfl, ba⟩
        have HBA := Lib.hid (And.intro (btP HNB.out ba) ba)
        clear ENC ba
        go_wp2_with fail
        refine (sumB_any (blockB g) _ (by have := HX.out.2.2.2.1; omega)).mono ?_
        rintro e wb ⟨rfl, bb⟩
        have HBB := Lib.hid (And.intro (btP HBA.out.1 bb) (HBA.out.2.trans (bb.mono HBA.out.2.size)))
        have dc := HQ.out.data HBB.out.1 (blockB g ++ sumB (blockB g)) (by intro e; have := congrArg List.length e; rw [List.length_append, sumB_length] at this; simp at this) (by rw [List.length_append, sumB_length]; have := HX.out.2.2.2.1; have := HX.out.2.2.1.1; omega)
        have DC := Lib.hid dc
        clear dc bb HBA HQ
        have l1 : (blockB g).length ≤ 1000 := HX.out.2.2.2.1
        have l2 := sumB_length (blockB g)
        go_wp2_with fail
        clear l1 l2
        refine DC.out.mono ?_
        rintro e wc ⟨rfl, BC, hq⟩
        have hk0 := (hq wr.heap.size (Nat.le_refl _) (by have := HBB.out.2.size; have := HS1.out; omega)).trans (HBB.out.2.block wr.heap.size (by have := HS1.out; omega))
        have y0 : wc.cell? ⟨wr.heap.size, 0, none⟩ = some (.string ⟨(keyG g).toArray⟩) := by
         have h1 := hk0.trans (heap_alloc_new wr (.cells #[.string ⟨(keyG g).toArray⟩, .slice sA sn scap] 84))
         simp [World.cell?, h1]
        have HBC := Lib.hid BC
        clear BC hq hk0 DC HBB
        go_wp2_with fail
        refine (putTextL_any (keyG g) _ (by have := HX.out.2.2.2.2; omega)).mono ?_
        rintro e wd ⟨rfl, bd'⟩
        have HBD := Lib.hid bd'
        clear bd'
        go_wp2_with fail
        refine (put_nat (blockB g).length _ (by have := HX.out.2.2.2.1; omega)).mono ?_
        rintro e we ⟨rfl, be⟩
        have ic := (HBC.out.later (btP HBD.out be)).index (putText (keyG g) ++ put (blockB g).length) (by
         have p1 := put_length9 (keyG g).length (by have := HX.out.2.2.2.2; omega)
         have p2 := put_length9 (blockB g).length (by have := HX.out.2.2.2.1; omega)
         have p3 := put_length9 n (by omega)
         have := HX.out.2.2.1.2
         have := HX.out.2.2.2.2
         unfold putText
         simp only [List.length_append]
         omega)
        have IC := Lib.hid ic
        clear ic be HBC HBD
        have l1 : (putText (keyG g)).length ≤ 100 := by
         have p1 := put_length9 (keyG g).length (by have := HX.out.2.2.2.2; omega)
         have := HX.out.2.2.2.2
         unfold putText
         rw [List.length_append]
         omega
        have l2 : (put (blockB g).length).length ≤ 9 := put_length9 _ (by have := HX.out.2.2.2.1; omega)
        go_wp2_with fail
        clear l1 l2
        refine IC.out.mono ?_
        rintro e wf ⟨rfl, BF⟩
        rw [List.append_assoc] at BF
        rw [show D ++ (blockB g ++ sumB (blockB g)) = dataG (gs.take (k + 1)) from HX.out.1.symm, show I ++ (putText (keyG g) ++ put (blockB g).length) = idxG (gs.take (k + 1)) from HX.out.2.1.symm] at BF
        have HBF := Lib.hid BF
        clear BF IC y0
        go_wp2_with fail
        go_roundw
        case rel => exact ⟨k + 1, rfl, by omega, HBF⟩
        case measure => simp [intOf]; omega
      · obtain rfl : k = n := by omega
        have hB := HQ.out
        rw [List.take_of_length_le (by rw [HN.out]; exact Nat.le_refl _)] at hB
        have hi : indexG gs = put k ++ idxG gs := by unfold indexG; rw [HN.out]
        rw [← hi] at hB
        have hne : indexG gs ≠ [] := by
         rw [hi]
         intro e
         have := congrArg List.length e
         have hp := put_length_pos k
         rw [List.length_append] at this
         simp only [List.length_nil] at this
         omega
        have HR := Lib.hid (Br2.of hB hne)
        have cat := bytes_cat
        clear HQ hB hi hne hlt
        have l1 : (dataG gs).length ≤ 10000000 := by have := HTL.out.1; have := HNN.out; omega
        have l2 : (indexG gs).length ≤ 1000000 := by have := HTL.out.2.1; have := HNN.out; omega
        have l3 := sumB_length (indexG gs)
        have l4 := big_length (dataG gs).length
        have l5 := big_length N
        go_wp2_with fail
        refine HR.out.data.mono ?_
        rintro e wa ⟨rfl, RA⟩
        have HRA := Lib.hid RA
        clear RA HR
        go_wp2_with fail
        refine HRA.out.index.mono ?_
        rintro e wb ⟨rfl, RB⟩
        have HRB := Lib.hid RB
        clear RB HRA
        go_wp2_with fail
        refine HRB.out.index.mono ?_
        rintro e wc ⟨rfl, RC⟩
        have HRC := Lib.hid RC
        clear RC HRB
        go_wp2_with fail
        refine (sumB_any (indexG gs) _ (by have := HTL.out.2.1; have := HNN.out; omega)).mono ?_
        rintro e wd ⟨rfl, bdd⟩
        have HRD := Lib.hid (HRC.out.later bdd)
        clear bdd HRC
        go_wp2_with fail
        refine HRD.out.len.mono ?_
        rintro e we ⟨rfl, rfl⟩
        go_wp2_with fail
        refine (big_nat (dataG gs).length _ (by have := HTL.out.1; have := HNN.out; omega)).mono ?_
        rintro e wf ⟨rfl, bff⟩
        have HRF := Lib.hid (HRD.out.later bff)
        clear bff HRD
        go_wp2_with fail
        refine (big_nat N _ (by omega)).mono ?_
        rintro e wg ⟨rfl, bg⟩
        have HRG := Lib.hid (HBW.out _ (HRF.out.later bg).frame)
        clear bg HRF
        go_wp2_with fail
        go_ret2
        exact ⟨ret2 (by unfold tableG; rw [HFL.out, HNN.out]; rfl) rfl, HRG.out⟩
end Go.Proofs.YtoglloafpnopaaaGreat
