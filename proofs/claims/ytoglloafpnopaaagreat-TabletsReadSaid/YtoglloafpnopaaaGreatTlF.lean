/- The laws' Made. -/
import Derived.Test.YtoglloafpnopaaaGreatTlE
set_option linter.unusedSimpArgs false
set_option linter.unusedVariables false
namespace Go.Proofs.YtoglloafpnopaaaGreat
set_option maxRecDepth 16000
open Go.RowKit Spoor
theorem PtrsGat.tabs {lo : Nat} {A : Option Addr} {n c : Nat} {Ts : List (List Ce)} {W : World} (h : PtrsGat lo (.slice A n c) Ts W) : TabsAt A n c Ts W := by
 obtain ⟨ptrs, h1, h2, -, h3⟩ := h
 rcases h1.2 with ⟨e, e2⟩ | ⟨g, cap, cur, e, hg, hgb, hn, hm, hs, ht⟩
 · cases e
   exact ⟨by omega, Nat.le_refl _, by unfold maxLen; omega, fun k hk => by omega⟩
 · simp only [Value.slice.injEq] at e
   obtain ⟨rfl, rfl, rfl⟩ := e
   refine ⟨h2.symm, hn, hm, fun k hk => ?_⟩
   obtain ⟨P, e3, hp⟩ := h3 k (by omega)
   refine ⟨g, 0, P, rfl, (Go.ltA hgb), ?_, hp⟩
   have hc := (show W.ownsRow lo 47 1 (.slice (some ⟨g, 0, none⟩) ptrs.length c) ptrs.length ptrs from h1).cellAt k (by omega)
   rw [Nat.zero_add, hc, ← e3]
   simp [List.getD, hk]
theorem new_tab (w : World) (q : Nat) (hq : w.heap.size = q) : ∃ w2, w.alloc (.cells #[.string ⟨#[]⟩, .string ⟨#[]⟩, .pointer none, .slice none 0 0] 31) = w2 ∧ w2.heap[q]? = some (.cells #[.string ⟨#[]⟩, .string ⟨#[]⟩, .pointer none, .slice none 0 0] 31 (0, 0)) ∧ Below w.heap.size w w2 ∧ w2.heap.size = q + 1 ∧
 w2.cell? ⟨q, 0, none⟩ = some (.string ⟨#[]⟩) ∧ w2.cell? ⟨q, 1, none⟩ = some (.string ⟨#[]⟩) ∧ w2.cell? ⟨q, 2, none⟩ = some (.pointer none) ∧ w2.cell? ⟨q, 3, none⟩ = some (.slice none 0 0) ∧ w2.frozen? ⟨q, 0, none⟩ = false ∧ w2.frozen? ⟨q, 1, none⟩ = false ∧ w2.frozen? ⟨q, 2, none⟩ = false ∧ w2.frozen? ⟨q, 3, none⟩ = false := by
 subst hq
 have h := heap_alloc_new w (.cells #[.string ⟨#[]⟩, .string ⟨#[]⟩, .pointer none, .slice none 0 0] 31)
 have nb := (Below.refl w.heap.size w).alloc (Nat.le_refl _) (.cells #[.string ⟨#[]⟩, .string ⟨#[]⟩, .pointer none, .slice none 0 0] 31)
 have hs : (w.alloc (.cells #[.string ⟨#[]⟩, .string ⟨#[]⟩, .pointer none, .slice none 0 0] 31)).heap.size = w.heap.size + 1 := World.size_alloc _ _
 obtain ⟨w2, hw2⟩ : ∃ w2, w.alloc (.cells #[.string ⟨#[]⟩, .string ⟨#[]⟩, .pointer none, .slice none 0 0] 31) = w2 := ⟨_, rfl⟩
 rw [hw2] at h nb hs
 refine ⟨w2, hw2, h, nb, hs, ?_⟩
 obtain ⟨q, hq⟩ : ∃ q, w.heap.size = q := ⟨_, rfl⟩
 rw [hq] at h ⊢
 simp [World.cell?, World.frozen?, h]
theorem new_ref (w : World) (q : Nat) (hq : w.heap.size = q) : ∃ w2, w.alloc (.cells #[.string ⟨#[]⟩, .string ⟨#[]⟩, .slice none 0 0] 33) = w2 ∧ w2.heap[q]? = some (.cells #[.string ⟨#[]⟩, .string ⟨#[]⟩, .slice none 0 0] 33 (0, 0)) ∧ Below w.heap.size w w2 ∧ w2.heap.size = q + 1 ∧
 w2.cell? ⟨q, 0, none⟩ = some (.string ⟨#[]⟩) ∧ w2.cell? ⟨q, 1, none⟩ = some (.string ⟨#[]⟩) ∧ w2.cell? ⟨q, 2, none⟩ = some (.slice none 0 0) ∧ w2.frozen? ⟨q, 0, none⟩ = false ∧ w2.frozen? ⟨q, 1, none⟩ = false ∧ w2.frozen? ⟨q, 2, none⟩ = false := by
 subst hq
 have h := heap_alloc_new w (.cells #[.string ⟨#[]⟩, .string ⟨#[]⟩, .slice none 0 0] 33)
 have nb := (Below.refl w.heap.size w).alloc (Nat.le_refl _) (.cells #[.string ⟨#[]⟩, .string ⟨#[]⟩, .slice none 0 0] 33)
 have hs : (w.alloc (.cells #[.string ⟨#[]⟩, .string ⟨#[]⟩, .slice none 0 0] 33)).heap.size = w.heap.size + 1 := World.size_alloc _ _
 obtain ⟨w2, hw2⟩ : ∃ w2, w.alloc (.cells #[.string ⟨#[]⟩, .string ⟨#[]⟩, .slice none 0 0] 33) = w2 := ⟨_, rfl⟩
 rw [hw2] at h nb hs
 refine ⟨w2, hw2, h, nb, hs, ?_⟩
 obtain ⟨q, hq⟩ : ∃ q, w.heap.size = q := ⟨_, rfl⟩
 rw [hq] at h ⊢
 simp [World.cell?, World.frozen?, h]
theorem set4 {q : Nat} {W : World} {a b c d a' b' c' d' : Value} {t : TypeId} (h : W.heap[q]? = some (.cells #[a, b, c, d] t (0, 0))) : ((((W.setCell ⟨q, 0, none⟩ a').setCell ⟨q, 1, none⟩ b').setCell ⟨q, 2, none⟩ c').setCell ⟨q, 3, none⟩ d').heap[q]? = some (.cells #[a', b', c', d'] t (0, 0)) := by
 have h1 : (W.setCell ⟨q, 0, none⟩ a').heap[q]? = some (.cells #[a', b, c, d] t (0, 0)) := by rw [heap_setCell_same W q 0 _ _ _ h]; rfl
 have h2 : ((W.setCell ⟨q, 0, none⟩ a').setCell ⟨q, 1, none⟩ b').heap[q]? = some (.cells #[a', b', c, d] t (0, 0)) := by rw [heap_setCell_same _ q 1 _ _ _ h1]; rfl
 have h3 : (((W.setCell ⟨q, 0, none⟩ a').setCell ⟨q, 1, none⟩ b').setCell ⟨q, 2, none⟩ c').heap[q]? = some (.cells #[a', b', c', d] t (0, 0)) := by rw [heap_setCell_same _ q 2 _ _ _ h2]; rfl
 rw [heap_setCell_same _ q 3 _ _ _ h3]; rfl
theorem tableB_short {r : List Ce} (hs : sortedB r = true) (hq : ∀ c ∈ r, c.q ≤ 9223372036854775807) (hl : r.length ≤ 900) : (tableB r).length ≤ 1000000 := by
 have := (table_len hs hq (by omega)).2.2
 omega
def dataVal (F T : List UInt8) (MA : Option Addr) (nm cm : Nat) (TA : Option Addr) (nt ct : Nat) : Value := .agg #[.string ⟨F.toArray⟩, .string ⟨T.toArray⟩, .slice MA nm cm, .slice TA nt ct]
def rvVal (F T : List UInt8) (A : Option Addr) (n c : Nat) : Value := .agg #[.string ⟨F.toArray⟩, .string ⟨T.toArray⟩, .slice A n c]
def DataOk (lm : List Ce) (Tl : List (List Ce)) : Prop := (lm.length ≤ 40 ∧ ∀ c ∈ lm, FitsC c) ∧ Tl.length ≤ 5 ∧ ∀ l ∈ Tl, l.length ≤ 40 ∧ ∀ c ∈ l, FitsC c
set_option maxRecDepth 100000 in
set_option maxHeartbeats 4000000 in
theorem made_any (F T : List UInt8) (MA : Option Addr) (nm cm : Nat) (TA : Option Addr) (nt ct : Nat) (lm : List Ce) (Tl : List (List Ce)) (w : World) (hM : SlAt (.slice MA nm cm) lm w) (hT : RowsIn (.slice TA nt ct) Tl w) (ok : DataOk lm Tl) :
 Calls Tryz.prog 11 #[dataVal F T MA nm cm TA nt ct] w fun e w' => ∃ p fs A n c A2 n2 c2, e = .returned (.tuple #[tabVal F T (some ⟨p, 0, none⟩) A n c, rvVal F T A2 n2 c2, .bool true]) ∧ Mem p (putsC [] lm) fs w' ∧ TabsAt A n c (Tl.map (putsC [])) w' ∧ RowsIn (.slice A2 n2 c2) (putsC [] lm :: Tl.map (putsC [])) w' ∧ Below w.heap.size w w' := by
 have hntl : Tl.length = nt := by obtain ⟨A, c, e, -⟩ := hT; simp only [Value.slice.injEq] at e; exact e.2.1.symm
 obtain ⟨xb, hxb⟩ : ∃ xb, w.heap.size = xb := ⟨_, rfl⟩
 have hx0 := heap_alloc_new w (.cells #[.string ⟨F.toArray⟩, .string ⟨T.toArray⟩, .slice MA nm cm, .slice TA nt ct] 25)
 have nb0 := (Below.refl w.heap.size w).alloc (Nat.le_refl _) (.cells #[.string ⟨F.toArray⟩, .string ⟨T.toArray⟩, .slice MA nm cm, .slice TA nt ct] 25)
 have hs0 : (w.alloc (.cells #[.string ⟨F.toArray⟩, .string ⟨T.toArray⟩, .slice MA nm cm, .slice TA nt ct] 25)).heap.size = w.heap.size + 1 := World.size_alloc _ _
 obtain ⟨W0, hW0⟩ : ∃ W0, w.alloc (.cells #[.string ⟨F.toArray⟩, .string ⟨T.toArray⟩, .slice MA nm cm, .slice TA nt ct] 25) = W0 := ⟨_, rfl⟩
 rw [hW0] at hx0 nb0 hs0
 rw [hxb] at hx0 hs0
 obtain ⟨W1, hW1, hr2, nb1, hs1, -⟩ := new_tab W0 (xb + 1) hs0
 obtain ⟨W2, hW2, hr3, nb2, hs2, -⟩ := new_ref W1 (xb + 1 + 1) hs1
 have k2 : ∀ {i : Nat} {o : Obj}, W1.heap[i]? = some o → W2.heap[i]? = some o := fun {i o} e => (nb2.block i (Go.ltA e)).trans e
 have k1 : ∀ {i : Nat} {o : Obj}, W0.heap[i]? = some o → W2.heap[i]? = some o := fun {i o} e => k2 ((nb1.block i (Go.ltA e)).trans e)
 have hx2 := k1 hx0
 have hr22 := k2 hr2
 have B2 : Below w.heap.size w W2 := (nb0.trans (nb1.mono nb0.size)).trans (nb2.mono (Nat.le_trans nb0.size nb1.size))
 have LC := Lib.hid (laidT_any (.slice MA nm cm) lm W2 (hM.later B2) (by have := ok.1.1; omega) ok.1.2)
 have x2 : W2.cell? ⟨xb, 2, none⟩ = some (.slice MA nm cm) := by rw [cell_of_row W2 xb _ _ _ _ hx2]; rfl
 have HH := Lib.hid (And.intro hx2 (And.intro hr22 (And.intro hr3 (And.intro B2 (And.intro hT (And.intro ok hntl))))))
 obtain ⟨L, hL⟩ : ∃ L, putsC [] lm = L := ⟨_, rfl⟩
 have hLs : L.length ≤ 40 := by have := puts_length lm []; rw [hL] at this; have := ok.1.1; simp at *; omega
 obtain ⟨Ts, hTs⟩ : ∃ Ts, Tl.map (putsC []) = Ts := ⟨_, rfl⟩
 rw [hL] at LC ⊢
 rw [hTs]
 have HTS := Lib.hid hTs
 unfold dataVal rvVal tabVal
 clear hL hTs hM hT ok hx0 nb0 hr2 nb1 hr3 nb2 k1 k2 hx2 hr22 B2 hntl
 go_enter Tryz.func11, Tryz.ntmps11
 go_wp2_with fail
 refine LC.out.mono ?_
 rintro e w3 ⟨p, fs, v, rfl, hM3, hfs3, own3, b3⟩
 have s3 := slC_own own3
 obtain ⟨A0, c0, rfl⟩ := own_slice own3
 obtain ⟨b7, hb7⟩ : ∃ b7, w3.heap.size = b7 := ⟨_, rfl⟩
 obtain ⟨W4, hW4, h74, nb4, hs4, y0, y1, y2, y3, yf0, yf1, yf2, yf3⟩ := new_tab w3 b7 hb7
 have h75 := set4 (a' := .string ⟨F.toArray⟩) (b' := .string ⟨T.toArray⟩) (c' := .pointer (some ⟨p, 0, none⟩)) (d' := .slice none 0 0) h74
 have nb5 : Below w3.heap.size w3 ((((W4.setCell ⟨b7, 0, none⟩ (.string ⟨F.toArray⟩)).setCell ⟨b7, 1, none⟩ (.string ⟨T.toArray⟩)).setCell ⟨b7, 2, none⟩ (.pointer (some ⟨p, 0, none⟩))).setCell ⟨b7, 3, none⟩ (.slice none 0 0)) := below_set (below_set (below_set (below_set nb4 (by omega) 0 _) (by omega) 1 _) (by omega) 2 _) (by omega) 3 _
 obtain ⟨W5, hW5⟩ : ∃ W5, ((((W4.setCell ⟨b7, 0, none⟩ (.string ⟨F.toArray⟩)).setCell ⟨b7, 1, none⟩ (.string ⟨T.toArray⟩)).setCell ⟨b7, 2, none⟩ (.pointer (some ⟨p, 0, none⟩))).setCell ⟨b7, 3, none⟩ (.slice none 0 0)) = W5 := ⟨_, rfl⟩
 have hs5 : W5.heap.size = b7 + 1 := by rw [← hW5, World.size_setCell, World.size_setCell, World.size_setCell, World.size_setCell]; exact hs4
 rw [hW5] at h75 nb5
 have s5 := s3.later nb5
 have nb6 := (Below.refl W5.heap.size W5).alloc (Nat.le_refl _) (.cells #[.slice A0 L.length c0] 22)
 have hs6 : (W5.alloc (.cells #[.slice A0 L.length c0] 22)).heap.size = b7 + 1 + 1 := by rw [World.size_alloc, hs5]
 have G6 := RowsGat.one (w0 := W5) (base := w.heap.size) (by have := HH.out.2.2.2.1.size; have := b3.size; omega) s5
 rw [hs5] at G6
 obtain ⟨W6, hW6⟩ : ∃ W6, W5.alloc (.cells #[.slice A0 L.length c0] 22) = W6 := ⟨_, rfl⟩
 rw [hW6] at nb6 hs6 G6
 obtain ⟨W7, hW7, h87, nb7, hs7, z0, z1, z2, zf0, zf1, zf2⟩ := new_ref W6 (b7 + 1 + 1) hs6
 have h88 := set3 (a' := .string ⟨F.toArray⟩) (b' := .string ⟨T.toArray⟩) (c' := .slice (some ⟨b7 + 1, 0, none⟩) 1 1) h87
 have nb8 : Below W6.heap.size W6 (((W7.setCell ⟨b7 + 1 + 1, 0, none⟩ (.string ⟨F.toArray⟩)).setCell ⟨b7 + 1 + 1, 1, none⟩ (.string ⟨T.toArray⟩)).setCell ⟨b7 + 1 + 1, 2, none⟩ (.slice (some ⟨b7 + 1, 0, none⟩) 1 1)) := below_set (below_set (below_set nb7 (by omega) 0 _) (by omega) 1 _) (by omega) 2 _
 obtain ⟨W8, hW8⟩ : ∃ W8, (((W7.setCell ⟨b7 + 1 + 1, 0, none⟩ (.string ⟨F.toArray⟩)).setCell ⟨b7 + 1 + 1, 1, none⟩ (.string ⟨T.toArray⟩)).setCell ⟨b7 + 1 + 1, 2, none⟩ (.slice (some ⟨b7 + 1, 0, none⟩) 1 1)) = W8 := ⟨_, rfl⟩
 rw [hW8] at h88 nb8
 have kA : ∀ {i : Nat} {o : Obj}, W2.heap[i]? = some o → w3.heap[i]? = some o := fun {i o} e => (b3.block i (Go.ltA e)).trans e
 have kB : ∀ {i : Nat} {o : Obj}, w3.heap[i]? = some o → W5.heap[i]? = some o := fun {i o} e => (nb5.block i (Go.ltA e)).trans e
 have kC : ∀ {i : Nat} {o : Obj}, W5.heap[i]? = some o → W6.heap[i]? = some o := fun {i o} e => (nb6.block i (Go.ltA e)).trans e
 have kD : ∀ {i : Nat} {o : Obj}, W6.heap[i]? = some o → W8.heap[i]? = some o := fun {i o} e => (nb8.block i (Go.ltA e)).trans e
 have sz3 := b3.size
 have sz2 := HH.out.2.2.2.1.size
 have B8 : Below w.heap.size w W8 := (((HH.out.2.2.2.1.trans (b3.mono sz2)).trans (nb5.mono (by omega))).trans (nb6.mono (by omega))).trans (nb8.mono (by omega))
 have M8 : MadeAt w w.heap.size b7 (b7 + 1 + 1) (xb + 1) (xb + 1 + 1) xb F T #[.string ⟨F.toArray⟩, .string ⟨T.toArray⟩, .slice MA nm cm, .slice TA nt ct] p fs L (.slice none 0 0) (.slice (some ⟨b7 + 1, 0, none⟩) 1 1) [] W8 :=
  ⟨kD (kC h75), h88, ⟨[], World.ownsRow_nil _ _ _ _, rfl, fun _ => rfl, fun j hj => by simp at hj⟩, G6.later nb8, ((hM3.later nb5).later nb6).later nb8, B8, kD (kC (kB (kA HH.out.2.1))), kD (kC (kB (kA HH.out.2.2.1))), kD (kC (kB (kA HH.out.1)))⟩
 have x0 : w3.cell? ⟨xb, 0, none⟩ = some (.string ⟨F.toArray⟩) := by rw [cell_of_row w3 xb _ _ _ _ (kA HH.out.1)]; rfl
 have x1 : w3.cell? ⟨xb, 1, none⟩ = some (.string ⟨T.toArray⟩) := by rw [cell_of_row w3 xb _ _ _ _ (kA HH.out.1)]; rfl
 have u0 : W5.cell? ⟨xb, 0, none⟩ = some (.string ⟨F.toArray⟩) := by rw [cell_of_row W5 xb _ _ _ _ (kB (kA HH.out.1))]; rfl
 have u1 : W5.cell? ⟨xb, 1, none⟩ = some (.string ⟨T.toArray⟩) := by rw [cell_of_row W5 xb _ _ _ _ (kB (kA HH.out.1))]; rfl
 have hb7l : w.heap.size ≤ b7 := by omega
 have hb7x : xb + 3 ≤ b7 := by omega
 have HM := Lib.hid M8
 have HMF := Lib.hid HTS.out
 clear kA kB kC kD B8 M8 nb5 nb6 nb8 h74 nb4 h87 nb7 hM3 hfs3 own3 s3 s5 G6 h75 h88 sz3 sz2 b3 LC x2
 go_wp2_with fail
 clear y0 y1 y2 y3 yf0 yf1 yf2 yf3 z0 z1 z2 zf0 zf1 zf2 x0 x1 u0 u1 hW0 hW1 hW2 hW4 hW5 hW6 hW7 hW8
 go_loopw [9] (fun iv wr => ∃ k : Nat, k ≤ nt ∧ iv = .int .i64 k ∧ Hid (∃ tv rv, MadeAt w w.heap.size b7 (b7 + 1 + 1) (xb + 1) (xb + 1 + 1) xb F T #[.string ⟨F.toArray⟩, .string ⟨T.toArray⟩, .slice MA nm cm, .slice TA nt ct] p fs L tv rv (Ts.take k) wr)) (fun iv _ => nt - (intOf iv).toNat)
 case atStart => exact ⟨0, by omega, rfl, Lib.hid ⟨_, _, HM.out⟩⟩
 case round =>
  obtain ⟨k, hk, rfl, HI⟩ := hrel
  obtain ⟨tv, rv, h⟩ := HI.out
  have hnt5 : nt ≤ 5 := by have := HH.out.2.2.2.2.2.1.2.1; have := HH.out.2.2.2.2.2.2; omega
  have hTsl : Ts.length = nt := by rw [← HMF.out, List.length_map]; exact HH.out.2.2.2.2.2.2
  have x3 : wr.cell? ⟨xb, 3, none⟩ = some (.slice TA nt ct) := by rw [cell_of_row wr xb _ _ _ _ h.hx]; rfl
  obtain ⟨At, nat, cat, rfl⟩ : ∃ A n c, tv = .slice A n c := by obtain ⟨ptrs, h1, -⟩ := h.ptrs; obtain ⟨A, c, e⟩ := own_slice h1; exact ⟨A, _, c, e⟩
  obtain ⟨Ar, nar, car, rfl⟩ : ∃ A n c, rv = .slice A n c := by obtain ⟨vals, h1, -⟩ := h.rows; obtain ⟨A, c, e⟩ := own_slice h1; exact ⟨A, _, c, e⟩
  have HA := Lib.hid h
  clear HI h HM
  by_cases hkn : k < nt
  · obtain ⟨Ab, cb, e0, hc1, hc2, hrow⟩ := HH.out.2.2.2.2.1.later HA.out.below
    obtain ⟨rb, o, vk, rfl, hrb, hcell, hsl⟩ := hrow k (by rw [HH.out.2.2.2.2.2.2]; exact hkn)
    simp only [Value.slice.injEq] at e0
    obtain ⟨rfl, -, rfl⟩ := e0
    obtain ⟨lk, hlk⟩ : ∃ lk, Tl.getD k [] = lk := ⟨_, rfl⟩
    have hlm : lk ∈ Tl := by
     have : k < Tl.length := by rw [HH.out.2.2.2.2.2.2]; exact hkn
     rw [← hlk, show Tl.getD k [] = Tl[k] by simp [List.getD, this]]
     exact List.getElem_mem _
    rw [hlk] at hsl
    have hok := HH.out.2.2.2.2.2.1.2.2 lk hlm
    have LC := Lib.hid (laidT_any vk lk wr hsl (by omega) hok.2)
    obtain ⟨r, hr⟩ : ∃ r, putsC [] lk = r := ⟨_, rfl⟩
    have hrl : r.length ≤ 40 := by have := puts_length lk []; rw [hr] at this; simp at this; omega
    have hrf : ∀ c ∈ r, FitsC c := hr ▸ fits_puts (by simp) hok.2
    have hrs : sortedB r = true := sorted_rise.2 ⟨hr ▸ puts_rise (by simp [Rise]), hr ▸ puts_may (by simp)⟩
    have htk : Ts.take (k + 1) = Ts.take k ++ [r] := by
     have h1 : k < Ts.length := by omega
     have h2 : k < Tl.length := by rw [HH.out.2.2.2.2.2.2]; exact hkn
     rw [List.take_add_one]
     have : Ts[k]? = some r := by
      rw [← HMF.out, List.getElem?_map, ← hr, ← hlk]
      simp [List.getD, h2]
     rw [this]
     rfl
    rw [hr] at LC
    have hki : (k : Int) < (nt : Int) := by omega
    obtain ⟨Av, cv, rfl⟩ : ∃ A c, vk = .slice A lk.length c := by obtain ⟨A, c, e, -⟩ := hsl; exact ⟨A, c, e⟩
    have HR := Lib.hid (And.intro hrl (And.intro hrf (And.intro hrs htk)))
    clear hrow hsl hok hlm hrl hrf hrs htk hc1 hc2 hlk hr
    go_wp2_with fail
    refine LC.out.mono ?_
    rintro e w4 ⟨p4, fs4, v4, rfl, -, -, own4, b4⟩
    have s4 := slC_own own4
    have BC := Lib.hid (buildT_any v4 r w4 s4.1 HR.out.2.1 (by have := HR.out.1; omega))
    rw [show buildV r = .tuple #[.string ⟨(tableB r).toArray⟩, .int .i64 0] by unfold buildV; rw [if_pos HR.out.2.2.1, if_neg (by have := HR.out.1; omega)]] at BC
    obtain ⟨A4, c4, rfl⟩ := own_slice own4
    have H4 := Lib.hid (And.intro s4 b4)
    clear own4 s4 b4 LC
    go_wp2_with fail
    refine BC.out.mono ?_
    rintro e w5 ⟨rfl, b5⟩
    have hob : openT (tableB r) = some (fours r) := open_build HR.out.2.2.1 (by have := HR.out.1; omega) fun c hc => (HR.out.2.1 c hc).2.2
    have htl : (tableB r).length ≤ 1000000 := tableB_short HR.out.2.2.1 (fun c hc => (HR.out.2.1 c hc).2.2) (by have := HR.out.1; omega)
    have OC := Lib.hid (openT_some hob w5 htl)
    have H5 := Lib.hid (And.intro (H4.out.1.later b5) (H4.out.2.trans (b5.mono H4.out.2.size)))
    clear b5 hob htl BC H4
    go_wp2_with fail
    refine OC.out.mono ?_
    rintro e w6 ⟨b6, t, rfl, ht⟩
    have B6 := H5.out.2.trans (b6.mono H5.out.2.size)
    have hff := fours_facts HR.out.2.2.1 (by have := HR.out.1; omega)
    have hp6 : TabPtr (some ⟨t, 0, none⟩) r w6 := .inr ⟨t, fours r, rfl, ht, fours_flat r, hff.2.1, hff.2.2.1⟩
    have h6 := HA.out.later (Nat.le_refl _) B6
    obtain ⟨g, c', w7, run7, d73, f73, W9, hW9, d82, g2, c2, w8, run8, d82', f82, hfin⟩ := h6.step (Nat.le_refl _) (by omega) (by omega) (by omega) (by omega) (by rw [List.length_take]; omega) hp6 (H5.out.1.later b6)
    rw [← HR.out.2.2.2] at hfin
    have hlt : (Ts.take k).length = k := by rw [List.length_take]; omega
    simp only [List.length_cons, hlt] at run7 hW9 run8 hfin
    have d63 : w6.cell? ⟨b7, 3, none⟩ = some (.slice At nat cat) := by rw [cell_of_row w6 b7 _ _ _ _ h6.h7]; rfl
    have R7 := Lib.hid run7
    have R8 := Lib.hid run8
    have HF := Lib.hid hfin
    clear b6 B6 ht hff hp6 h6 run7 run8 hfin OC H5
    go_wp2_with (at_builtin; first | refine wpList_append_runE _ rfl _ _ 29 29 rfl _ _ rfl rfl R7.out ?_ | refine wpList_append_runE _ rfl _ _ 23 23 rfl _ _ rfl rfl R8.out ?_)
    go_roundw
    case rel => exact ⟨k + 1, by omega, by simp <;> omega, Lib.hid ⟨_, _, HF.out⟩⟩
    case measure => simp [intOf]; omega
  · obtain rfl : k = nt := by omega
    have h := HA.out
    rw [List.take_of_length_le (by omega)] at h
    have g0 : wr.cell? ⟨b7, 0, none⟩ = some (.string ⟨F.toArray⟩) := by rw [cell_of_row wr b7 _ _ _ _ h.h7]; rfl
    have g1 : wr.cell? ⟨b7, 1, none⟩ = some (.string ⟨T.toArray⟩) := by rw [cell_of_row wr b7 _ _ _ _ h.h7]; rfl
    have g2 : wr.cell? ⟨b7, 2, none⟩ = some (.pointer (some ⟨p, 0, none⟩)) := by rw [cell_of_row wr b7 _ _ _ _ h.h7]; rfl
    have g3 : wr.cell? ⟨b7, 3, none⟩ = some (.slice At nat cat) := by rw [cell_of_row wr b7 _ _ _ _ h.h7]; rfl
    have l0 : wr.cell? ⟨b7 + 1 + 1, 0, none⟩ = some (.string ⟨F.toArray⟩) := by rw [cell_of_row wr _ _ _ _ _ h.h8]; rfl
    have l1 : wr.cell? ⟨b7 + 1 + 1, 1, none⟩ = some (.string ⟨T.toArray⟩) := by rw [cell_of_row wr _ _ _ _ _ h.h8]; rfl
    have l2 : wr.cell? ⟨b7 + 1 + 1, 2, none⟩ = some (.slice Ar nar car) := by rw [cell_of_row wr _ _ _ _ _ h.h8]; rfl
    have o0 : wr.cell? ⟨xb + 1, 0, none⟩ = some (.string ⟨#[]⟩) := by rw [cell_of_row wr _ _ _ _ _ h.hr2]; rfl
    have o1 : wr.cell? ⟨xb + 1, 1, none⟩ = some (.string ⟨#[]⟩) := by rw [cell_of_row wr _ _ _ _ _ h.hr2]; rfl
    have o2 : wr.cell? ⟨xb + 1, 2, none⟩ = some (.pointer none) := by rw [cell_of_row wr _ _ _ _ _ h.hr2]; rfl
    have o3 : wr.cell? ⟨xb + 1, 3, none⟩ = some (.slice none 0 0) := by rw [cell_of_row wr _ _ _ _ _ h.hr2]; rfl
    have i0 : wr.cell? ⟨xb + 1 + 1, 0, none⟩ = some (.string ⟨#[]⟩) := by rw [cell_of_row wr _ _ _ _ _ h.hr3]; rfl
    have i1 : wr.cell? ⟨xb + 1 + 1, 1, none⟩ = some (.string ⟨#[]⟩) := by rw [cell_of_row wr _ _ _ _ _ h.hr3]; rfl
    have i2 : wr.cell? ⟨xb + 1 + 1, 2, none⟩ = some (.slice none 0 0) := by rw [cell_of_row wr _ _ _ _ _ h.hr3]; rfl
    have fo : ∀ j, wr.frozen? ⟨xb + 1, j, none⟩ = false := fun j => by simp [World.frozen?, h.hr2]
    have fi : ∀ j, wr.frozen? ⟨xb + 1 + 1, j, none⟩ = false := fun j => by simp [World.frozen?, h.hr3]
    have nk : ¬ (k : Int) < (k : Int) := by omega
    have n1 : ¬ b7 = xb + 1 := by omega
    have n2 : ¬ b7 = xb + 1 + 1 := by omega
    have n3 : ¬ b7 + 1 + 1 = xb + 1 := by omega
    have n4 : ¬ b7 + 1 + 1 = xb + 1 + 1 := by omega
    have hr2d : wr.heap[xb + 1]? = some (.cells #[.string ⟨#[]⟩, .string ⟨#[]⟩, .pointer none, .slice none 0 0] 31 (0, 0)) := h.hr2
    have q4 := set4 (a' := .string ⟨F.toArray⟩) (b' := .string ⟨T.toArray⟩) (c' := .pointer (some ⟨p, 0, none⟩)) (d' := .slice At nat cat) hr2d
    have k4 : ∀ k, k ≠ xb + 1 → ((((wr.setCell ⟨xb + 1, 0, none⟩ (.string ⟨F.toArray⟩)).setCell ⟨xb + 1, 1, none⟩ (.string ⟨T.toArray⟩)).setCell ⟨xb + 1, 2, none⟩ (.pointer (some ⟨p, 0, none⟩))).setCell ⟨xb + 1, 3, none⟩ (.slice At nat cat)).heap[k]? = wr.heap[k]? := fun k hk =>
     (Below.heap_setCell _ ⟨xb + 1, 3, none⟩ _ k hk).trans ((Below.heap_setCell _ ⟨xb + 1, 2, none⟩ _ k hk).trans ((Below.heap_setCell _ ⟨xb + 1, 1, none⟩ _ k hk).trans (Below.heap_setCell _ ⟨xb + 1, 0, none⟩ _ k hk)))
    have B4 : Below w.heap.size w ((((wr.setCell ⟨xb + 1, 0, none⟩ (.string ⟨F.toArray⟩)).setCell ⟨xb + 1, 1, none⟩ (.string ⟨T.toArray⟩)).setCell ⟨xb + 1, 2, none⟩ (.pointer (some ⟨p, 0, none⟩))).setCell ⟨xb + 1, 3, none⟩ (.slice At nat cat)) := below_set (below_set (below_set (below_set h.below (by omega) 0 _) (by omega) 1 _) (by omega) 2 _) (by omega) 3 _
    obtain ⟨X4, hX4⟩ : ∃ X4, ((((wr.setCell ⟨xb + 1, 0, none⟩ (.string ⟨F.toArray⟩)).setCell ⟨xb + 1, 1, none⟩ (.string ⟨T.toArray⟩)).setCell ⟨xb + 1, 2, none⟩ (.pointer (some ⟨p, 0, none⟩))).setCell ⟨xb + 1, 3, none⟩ (.slice At nat cat)) = X4 := ⟨_, rfl⟩
    have sz4 : X4.heap.size = wr.heap.size := by rw [← hX4]; simp only [World.size_setCell]
    rw [hX4] at q4 k4 B4
    have m3 := (k4 (xb + 1 + 1) (by omega)).trans h.hr3
    have q7 := set3 (a' := .string ⟨F.toArray⟩) (b' := .string ⟨T.toArray⟩) (c' := .slice Ar nar car) m3
    have k7 : ∀ k, k ≠ xb + 1 + 1 → (((X4.setCell ⟨xb + 1 + 1, 0, none⟩ (.string ⟨F.toArray⟩)).setCell ⟨xb + 1 + 1, 1, none⟩ (.string ⟨T.toArray⟩)).setCell ⟨xb + 1 + 1, 2, none⟩ (.slice Ar nar car)).heap[k]? = X4.heap[k]? := fun k hk =>
     (Below.heap_setCell _ ⟨xb + 1 + 1, 2, none⟩ _ k hk).trans ((Below.heap_setCell _ ⟨xb + 1 + 1, 1, none⟩ _ k hk).trans (Below.heap_setCell _ ⟨xb + 1 + 1, 0, none⟩ _ k hk))
    have B7 : Below w.heap.size w (((X4.setCell ⟨xb + 1 + 1, 0, none⟩ (.string ⟨F.toArray⟩)).setCell ⟨xb + 1 + 1, 1, none⟩ (.string ⟨T.toArray⟩)).setCell ⟨xb + 1 + 1, 2, none⟩ (.slice Ar nar car)) := below_set (below_set (below_set B4 (by omega) 0 _) (by omega) 1 _) (by omega) 2 _
    obtain ⟨X7, hX7⟩ : ∃ X7, (((X4.setCell ⟨xb + 1 + 1, 0, none⟩ (.string ⟨F.toArray⟩)).setCell ⟨xb + 1 + 1, 1, none⟩ (.string ⟨T.toArray⟩)).setCell ⟨xb + 1 + 1, 2, none⟩ (.slice Ar nar car)) = X7 := ⟨_, rfl⟩
    have sz7 : X7.heap.size = wr.heap.size := by rw [← hX7]; simp only [World.size_setCell]; exact sz4
    rw [hX7] at q7 k7 B7
    have q2 := (k7 (xb + 1) (by omega)).trans q4
    have a2 : Aside (xb + 1) wr := ⟨_, _, h.hr2, .inr (.inr (.inl rfl)), fun x A n c e => by cases e.2⟩
    have a3 : Aside (xb + 1 + 1) wr := ⟨_, _, h.hr3, .inr (.inr (.inr rfl)), fun x A n c e => by cases e.2⟩
    have fX : AsF wr X7 := ⟨by omega, fun k hk hn => (k7 k fun e => hn (e ▸ a3)).trans (k4 k fun e => hn (e ▸ a2))⟩
    have PX := h.ptrs.asf fX fun y hy => by
     obtain ⟨_, ⟨cur, hc⟩, _⟩ := h.ptrs.aside y hy
     exact (k7 y fun e => by rw [e, h.hr3] at hc; simp at hc).trans (k4 y fun e => by rw [e, h.hr2] at hc; simp at hc)
    have RX := h.rows.asf fX fun y hy => by
     obtain ⟨_, ⟨cur, hc⟩, _⟩ := h.rows.aside (by simp) y hy
     exact (k7 y fun e => by rw [e, h.hr3] at hc; simp at hc).trans (k4 y fun e => by rw [e, h.hr2] at hc; simp at hc)
    have nd := Below.drew (Below.refl X7.heap.size X7)
    have HE := Lib.hid (And.intro ((h.mem.asf fX).later nd) (And.intro (PX.tabs.later nd) (And.intro (RX.rows.later nd) (Below.drew B7))))
    have v0 : X7.cell? ⟨xb + 1, 0, none⟩ = some (.string ⟨F.toArray⟩) := by rw [cell_of_row X7 _ _ _ _ _ q2]; rfl
    have v1 : X7.cell? ⟨xb + 1, 1, none⟩ = some (.string ⟨T.toArray⟩) := by rw [cell_of_row X7 _ _ _ _ _ q2]; rfl
    have v2 : X7.cell? ⟨xb + 1, 2, none⟩ = some (.pointer (some ⟨p, 0, none⟩)) := by rw [cell_of_row X7 _ _ _ _ _ q2]; rfl
    have v3 : X7.cell? ⟨xb + 1, 3, none⟩ = some (.slice At nat cat) := by rw [cell_of_row X7 _ _ _ _ _ q2]; rfl
    have s0 : X7.cell? ⟨xb + 1 + 1, 0, none⟩ = some (.string ⟨F.toArray⟩) := by rw [cell_of_row X7 _ _ _ _ _ q7]; rfl
    have s1 : X7.cell? ⟨xb + 1 + 1, 1, none⟩ = some (.string ⟨T.toArray⟩) := by rw [cell_of_row X7 _ _ _ _ _ q7]; rfl
    have s2 : X7.cell? ⟨xb + 1 + 1, 2, none⟩ = some (.slice Ar nar car) := by rw [cell_of_row X7 _ _ _ _ _ q7]; rfl
    have HV := Lib.hid (show X7.drew.cell? ⟨xb + 1, 0, none⟩ = some (.string ⟨F.toArray⟩) ∧ X7.drew.cell? ⟨xb + 1, 1, none⟩ = some (.string ⟨T.toArray⟩) ∧ X7.drew.cell? ⟨xb + 1, 2, none⟩ = some (.pointer (some ⟨p, 0, none⟩)) ∧ X7.drew.cell? ⟨xb + 1, 3, none⟩ = some (.slice At nat cat) ∧ X7.drew.cell? ⟨xb + 1 + 1, 0, none⟩ = some (.string ⟨F.toArray⟩) ∧ X7.drew.cell? ⟨xb + 1 + 1, 1, none⟩ = some (.string ⟨T.toArray⟩) ∧ X7.drew.cell? ⟨xb + 1 + 1, 2, none⟩ = some (.slice Ar nar car) from And.intro v0 (And.intro v1 (And.intro v2 (And.intro v3 (And.intro s0 (And.intro s1 s2))))))
    have HX := Lib.hid (And.intro hX4 hX7)
    clear h HA hr2d q4 k4 B4 m3 q7 k7 B7 q2 a2 a3 fX PX RX v0 v1 v2 v3 s0 s1 s2 sz4 sz7 hX4 hX7
    go_wp2_with fail
    go_region_with fail
    all_goals
     go_wp2_with fail
     have e1 := HX.out.1
     have e2 := HX.out.2
     simp only [e1, e2]
     obtain ⟨v0, v1, v2, v3, s0, s1, s2⟩ := HV.out
     clear o0 o1 o2 o3 i0 i1 i2 fo fi g0 g1 g2 g3 l0 l1 l2 e1 e2
     refine bodyPost_ret (v := .tuple #[.agg #[.string ⟨F.toArray⟩, .string ⟨T.toArray⟩, .pointer (some ⟨p, 0, none⟩), .slice At nat cat], .agg #[.string ⟨F.toArray⟩, .string ⟨T.toArray⟩, .slice Ar nar car], .bool true]) (by simp [results, Tryz.results11, go_sem, *]) rfl ?_
     exact ⟨p, fs, At, nat, cat, Ar, nar, car, rfl, HE.out.1, HE.out.2.1, HE.out.2.2.1, HE.out.2.2.2⟩
end Go.Proofs.YtoglloafpnopaaaGreat
