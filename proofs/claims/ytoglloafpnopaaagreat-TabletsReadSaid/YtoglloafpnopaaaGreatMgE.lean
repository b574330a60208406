/- merges' Next. merges' New. merges' iterator: what it tells, one by one. merges' iterator, ranged over. -/
import Derived.Test.YtoglloafpnopaaaGreatTC
import Derived.Test.YtoglloafpnopaaaGreatMemH
import Derived.Test.YtoglloafpnopaaaGreatMgB
import Derived.Test.YtoglloafpnopaaaGreatMgD
import Derived.Maps.AppendAt
set_option linter.unusedSimpArgs false
set_option linter.unusedVariables false
namespace Go.Proofs.YtoglloafpnopaaaGreat
set_option maxRecDepth 16000
open Go.RowKit Spoor
def ItAt (p base n₀ : Nat) (H : List Rw) (W : World) : Prop := ∃ vs, HpAt p base H vs W ∧ Full H ∧ HeapR H.length H ∧ H.length ≤ 100000 ∧ p < n₀ ∧ n₀ ≤ W.heap.size ∧ ∀ v ∈ vs, ∀ b, v.ownBlock = some b → b < n₀
theorem SlC.tail {c0 : Ce} {l : List Ce} {b o cap : Nat} {W : World} (h : SlC (.slice (some ⟨b, o, none⟩) (l.length + 1) cap) (c0 :: l) W) : SlC (.slice (some ⟨b, o + 3, none⟩) l.length (cap - 1)) l W := by
 obtain ⟨⟨A, cap', e, h1, h2, h3⟩, h4⟩ := h
 cases e
 obtain ⟨b', o', e, hr⟩ := h3 (by simp)
 cases e
 rw [List.length_cons] at h1
 refine ⟨⟨_, _, rfl, by omega, by omega, fun _ => ⟨_, _, rfl, hr.1, fun i hi j u hj => ?_⟩⟩, fun b' e => h4 b' e⟩
 have := hr.2 (i + 1) (by simp; omega) j u (by simpa using hj)
 rw [show o + 3 + i * 3 + j = o + (i + 1) * 3 + j by omega]
 exact this
theorem HpAt.slice {p base : Nat} {H : List Rw} {vs : List Value} {W : World} (h : HpAt p base H vs W) : ∃ A cap, W.heap[p]? = some (.cells #[.slice A H.length cap] 172 (0, 0)) := by
 obtain ⟨v, h1, h2⟩ := h.own
 rcases h2.2 with ⟨rfl, e⟩ | ⟨g, cap, cur, rfl, _⟩
 · rw [e]; exact ⟨none, 0, h1⟩
 · exact ⟨_, _, h1⟩
theorem ownRow_same {w w' : World} {base n : Nat} {v : Value} {xs : List Value} {e : TypeId} {sz : Nat} (h : w.ownsRow base e sz v n xs) (hs : ∀ g, v.ownBlock = some g → w'.heap[g]? = w.heap[g]?) : w'.ownsRow base e sz v n xs := by
 refine ⟨h.1, ?_⟩
 rcases h.2 with ⟨h1, h2⟩ | ⟨g1, cap1, cur1, rfl, h2, hg1, h3⟩
 · exact .inl ⟨h1, h2⟩
 · exact .inr ⟨g1, cap1, cur1, rfl, h2, (hs g1 rfl).trans hg1, h3⟩
def RBf (n₀ : Nat) (W W' : World) : Prop := Below n₀ W W' ∧ W.heap.size ≤ W'.heap.size ∧ ∀ (k : Nat) (cur : Array Value), W.heap[k]? = some (.cells cur 176 (0, 0)) → W'.heap[k]? = W.heap[k]?
theorem RBf.refl (n₀ : Nat) (W : World) : RBf n₀ W W := ⟨Below.refl _ _, Nat.le_refl _, fun _ _ _ => rfl⟩
theorem RBf.trans {n₀ : Nat} {a b c : World} (h : RBf n₀ a b) (k : RBf n₀ b c) : RBf n₀ a c := ⟨h.1.trans k.1, Nat.le_trans h.2.1 k.2.1, fun x cur hx => by
 have e := h.2.2 x cur hx
 exact (k.2.2 x cur (e.trans hx)).trans e⟩
theorem RBf.of {n₀ : Nat} {W W' : World} (h : Below W.heap.size W W') (hn : n₀ ≤ W.heap.size) : RBf n₀ W W' := ⟨h.mono hn, h.size, fun k cur hk => h.block k (Go.ltA hk)⟩
theorem RBf.set {n₀ q j : Nat} {W : World} {cur : Array Value} {t : TypeId} (hq : W.heap[q]? = some (.cells cur t (0, 0))) (ht : t ≠ 176) (hn : n₀ ≤ q) (v : Value) : RBf n₀ W (W.setCell ⟨q, j, none⟩ v) :=
 ⟨below_set (Below.refl _ _) hn j v, by rw [World.size_setCell]; exact Nat.le_refl _, fun k cur' hk => Below.heap_setCell W ⟨q, j, none⟩ v k fun e => by
   have e' : k = q := e
   rw [e', hq] at hk
   simp only [Option.some.injEq, Obj.cells.injEq] at hk
   exact ht hk.2.1⟩
theorem SlC.rb {n₀ : Nat} {v : Value} {l : List Ce} {W W' : World} (h : SlC v l W) (hv : ∀ b, v.ownBlock = some b → b < n₀) (f : RBf n₀ W W') : SlC v l W' := by
 have key : ∀ b, v.ownBlock = some b → W'.heap[b]? = W.heap[b]? := fun b e => f.1.block b (hv b e)
 refine ⟨?_, fun b e => ?_⟩
 · obtain ⟨A, cap, rfl, h1, h2, h3⟩ := h.1
   refine ⟨A, cap, rfl, h1, h2, fun hl => ?_⟩
   obtain ⟨b, o2, rfl, hrow⟩ := h3 hl
   have hk := key b rfl
   refine ⟨b, o2, rfl, Nat.lt_of_lt_of_le hrow.1 f.2.1, fun i hi j u hj => ?_⟩
   rw [World.cell?_of_block (w := W) hk]
   exact hrow.2 i hi j u hj
 · obtain ⟨cur, hc⟩ := h.2 b e
   exact ⟨cur, (key b e).trans hc⟩
theorem getD_mem {vs : List Value} {i : Nat} (h : i < vs.length) : vs.getD i undef ∈ vs := by
 rw [show vs.getD i undef = vs[i] by simp [List.getD, h]]; exact List.getElem_mem h
theorem ItAt.rb {p base n₀ : Nat} {H : List Rw} {W W' : World} (h : ItAt p base n₀ H W) (f : RBf n₀ W W') : ItAt p base n₀ H W' := by
 obtain ⟨vs, h1, h2, h3, h4, h5, h6, h7⟩ := h
 refine ⟨vs, ⟨?_, h1.len, fun i hi => (h1.sl i hi).rb (h7 _ (getD_mem (by rw [h1.len]; exact hi))) f, h1.lt, Nat.le_trans h1.le f.2.1⟩, h2, h3, h4, h5, Nat.le_trans h6 f.2.1, h7⟩
 obtain ⟨v, k1, k2⟩ := h1.own
 refine ⟨v, (f.1.block p h5).trans k1, ownRow_same k2 fun g hg => ?_⟩
 rcases k2.2 with ⟨rfl, _⟩ | ⟨g2, cap, cur, rfl, _, hgb, _⟩
 · simp [Value.ownBlock] at hg
 · have e2 : g2 = g := by simpa [Value.ownBlock] using hg
   rw [← e2]
   exact f.2.2 g2 cur hgb
theorem RFr.set {p q j : Nat} {w W : World} (h : RFr p w W) (hq : w.heap.size ≤ q) (hp : p ≤ q) (v : Value) : RFr p w (W.setCell ⟨q, j, none⟩ v) :=
 ⟨below_set h.1 hp j v, fun k hk hkp hkr => (Below.heap_setCell W ⟨q, j, none⟩ v k (show k ≠ q by omega)).trans (h.2 k hk hkp hkr)⟩
theorem RFr.cells {p k : Nat} {W W' : World} {cur : Array Value} {t : TypeId} (f : RFr p W W') (hk : W.heap[k]? = some (.cells cur t (0, 0))) (hp : k ≠ p) (ht : t ≠ 176) : W'.heap[k]? = some (.cells cur t (0, 0)) :=
 (f.2 k (Go.ltA hk) hp fun cur' e => by
   rw [hk] at e
   simp only [Option.some.injEq, Obj.cells.injEq] at e
   exact ht e.2.1).trans hk
theorem set3 {q : Nat} {W : World} {a b c a' b' c' : Value} {t : TypeId} (h : W.heap[q]? = some (.cells #[a, b, c] t (0, 0))) : (((W.setCell ⟨q, 0, none⟩ a').setCell ⟨q, 1, none⟩ b').setCell ⟨q, 2, none⟩ c').heap[q]? = some (.cells #[a', b', c'] t (0, 0)) := by
 have h1 : (W.setCell ⟨q, 0, none⟩ a').heap[q]? = some (.cells #[a', b, c] t (0, 0)) := by rw [heap_setCell_same W q 0 _ _ _ h]; rfl
 have h2 : ((W.setCell ⟨q, 0, none⟩ a').setCell ⟨q, 1, none⟩ b').heap[q]? = some (.cells #[a', b', c] t (0, 0)) := by rw [heap_setCell_same _ q 1 _ _ _ h1]; rfl
 rw [heap_setCell_same _ q 2 _ _ _ h2]; rfl
theorem set2 {q : Nat} {W : World} {a b a' b' : Value} {t : TypeId} (h : W.heap[q]? = some (.cells #[a, b] t (0, 0))) : ((W.setCell ⟨q, 0, none⟩ a').setCell ⟨q, 1, none⟩ b').heap[q]? = some (.cells #[a', b'] t (0, 0)) := by
 have h1 : (W.setCell ⟨q, 0, none⟩ a').heap[q]? = some (.cells #[a', b] t (0, 0)) := by rw [heap_setCell_same W q 0 _ _ _ h]; rfl
 rw [heap_setCell_same _ q 1 _ _ _ h1]; rfl
theorem next_end {p base n₀ q : Nat} {H : List Rw} {w W : World} {a b c : Value} (f : RFr p w W) (h : ItAt p base n₀ H W) (hq : W.heap[q]? = some (.cells #[a, b, c] 38 (0, 0))) (hqe : w.heap.size = q) (hpl : p < w.heap.size) (hn : n₀ ≤ q) (a' b' c' : Value) :
 RFr p w (((W.setCell ⟨q, 0, none⟩ a').setCell ⟨q, 1, none⟩ b').setCell ⟨q, 2, none⟩ c') ∧ ItAt p base n₀ H (((W.setCell ⟨q, 0, none⟩ a').setCell ⟨q, 1, none⟩ b').setCell ⟨q, 2, none⟩ c') := by
 have h1 : (W.setCell ⟨q, 0, none⟩ a').heap[q]? = some (.cells #[a', b, c] 38 (0, 0)) := by rw [heap_setCell_same W q 0 _ _ _ hq]; rfl
 have h2 : ((W.setCell ⟨q, 0, none⟩ a').setCell ⟨q, 1, none⟩ b').heap[q]? = some (.cells #[a', b', c] 38 (0, 0)) := by rw [heap_setCell_same _ q 1 _ _ _ h1]; rfl
 refine ⟨((f.set (by omega) (by omega) _).set (by omega) (by omega) _).set (by omega) (by omega) _, ((h.rb (RBf.set hq (by decide) hn _)).rb (RBf.set h1 (by decide) hn _)).rb (RBf.set h2 (by decide) hn _)⟩
set_option maxRecDepth 100000 in
set_option maxHeartbeats 4000000 in
theorem nextM_any (p base n₀ : Nat) (H : List Rw) (w : World) (h : ItAt p base n₀ H w) :
 Calls Tryz.prog 100 #[.pointer (some ⟨p, 0, none⟩)] w fun e w' => RFr p w w' ∧ ((H = [] ∧ e = .returned (.tuple #[ceVal Ce.zero, .bool false]) ∧ ItAt p base n₀ H w') ∨ ∃ c H', StepR H c H' ∧ e = .returned (.tuple #[ceVal c, .bool true]) ∧ ItAt p base n₀ H' w') := by
 have hit := h
 obtain ⟨vs, h1, h2, h3, h4, h5, h6, h7⟩ := h
 obtain ⟨A, cap, hp⟩ := h1.slice
 have hpl := (Go.ltA hp)
 have nb := (Below.refl w.heap.size w).alloc (Nat.le_refl _) (.cells #[.string ⟨#[]⟩, .int .i64 0, .string ⟨#[]⟩] 38)
 have hq := heap_alloc_new w (.cells #[.string ⟨#[]⟩, .int .i64 0, .string ⟨#[]⟩] 38)
 obtain ⟨q, hqe⟩ : ∃ q, w.heap.size = q := ⟨_, rfl⟩
 rw [hqe] at hq
 obtain ⟨w1, hw1⟩ : ∃ w1, w.alloc (.cells #[.string ⟨#[]⟩, .int .i64 0, .string ⟨#[]⟩] 38) = w1 := ⟨_, rfl⟩
 rw [hw1] at nb hq
 have hp1 := (nb.block p hpl).trans hp
 have hx1 : w1.cell? ⟨p, 0, none⟩ = some (.slice A H.length cap) := by simp [World.cell?, hp1]
 have hq0 : w1.cell? ⟨q, 0, none⟩ = some (.string ⟨#[]⟩) := by simp [World.cell?, hq]
 have hq1 : w1.cell? ⟨q, 1, none⟩ = some (.int .i64 0) := by simp [World.cell?, hq]
 have hq2 : w1.cell? ⟨q, 2, none⟩ = some (.string ⟨#[]⟩) := by simp [World.cell?, hq]
 have hqf0 : w1.frozen? ⟨q, 0, none⟩ = false := by simp [World.frozen?, hq]
 have hqf1 : w1.frozen? ⟨q, 1, none⟩ = false := by simp [World.frozen?, hq]
 have hqf2 : w1.frozen? ⟨q, 2, none⟩ = false := by simp [World.frozen?, hq]
 have f1 : RFr p w w1 := RFr.of nb (Nat.le_of_lt hpl)
 have hit1 := hit.rb (RBf.of nb h6)
 obtain ⟨n, hn⟩ : ∃ n, H.length = n := ⟨_, rfl⟩
 have HK := Lib.hid (And.intro (h1.later nb) (And.intro h2 (And.intro h3 (And.intro h4 (And.intro h5 (And.intro h6 h7))))))
 have HF := Lib.hid f1
 have HQ := Lib.hid hq
 clear h1 h2 h3 h4 h5 h6 h7 hit f1
 rw [hn] at hx1
 by_cases h0 : H = []
 · have hn0 : n = 0 := by rw [← hn, h0]; rfl
   subst hn0
   have HE := Lib.hid (next_end HF.out hit1 hq hqe hpl (by have := HK.out.2.2.2.2.2.1; omega) (.string ⟨#[]⟩) (.int .i64 0) (.string ⟨#[]⟩))
   have H0 := Lib.hid h0
   clear hp hp1 hq nb hn hit1 h0
   go_enter Tryz.func100, Tryz.ntmps100
   go_wp2_with fail
   refine bodyPost_ret (v := .tuple #[.agg #[.string ⟨#[]⟩, .int .i64 0, .string ⟨#[]⟩], .bool false]) (by simp [results, Tryz.results100, go_sem, *]) rfl ?_
   exact ⟨HE.out.1, .inl ⟨H0.out, rfl, HE.out.2⟩⟩
 · have hn0 : ¬ n = 0 := by rw [← hn]; exact fun e => h0 (List.eq_nil_of_length_eq_zero e)
   have hni : ¬ (n : Int) = 0 := by omega
   have CP := Lib.hid (hpop_any p base H vs w1 HK.out.1 HK.out.2.1 HK.out.2.2.1 (by omega) HK.out.2.2.2.1)
   have hH : H.length ≠ 0 := by omega
   clear hp hp1 hq nb hn hit1 h0
   go_enter Tryz.func100, Tryz.ntmps100
   go_wp2_with fail
   refine CP.out.mono ?_
   rintro e w2 ⟨v, H3, vs3, rfl, q1, q2, q3, q4, q5, q6⟩
   obtain ⟨rest, pl, hr⟩ : ∃ rest pl, (H.getD 0 rz) = (hdC (H.getD 0 rz) :: rest, pl) := by
    have hfu := HK.out.2.1 0 (by omega)
    obtain ⟨r, hr⟩ : ∃ r, H.getD 0 rz = r := ⟨_, rfl⟩
    rw [hr] at hfu ⊢
    obtain ⟨l, pl⟩ := r
    cases l with
    | nil => exact absurd rfl hfu
    | cons a l => exact ⟨l, pl, rfl⟩
   obtain ⟨c, hc⟩ : ∃ c, hdC (H.getD 0 rz) = c := ⟨_, rfl⟩
   rw [hc] at hr
   have hmin := HK.out.2.2.1.min
   rw [hr] at q1 q4 hmin ⊢
   obtain ⟨A1, cp, hv, hcp1, hcp2, hrow⟩ := q4.1
   obtain ⟨b, o, rfl, row⟩ := hrow (by simp)
   subst hv
   obtain ⟨m, hm⟩ : ∃ m, rest.length = m := ⟨_, rfl⟩
   have hlen : (c :: rest, pl).1.length = m + 1 := by rw [← hm]; rfl
   have hfu : Full (H3 ++ [(c :: rest, pl)]) := HK.out.2.1.perm q1
   have hl3 : H3.length + 1 = H.length := by have := q1.length_eq; simpa using this
   have hb0 : b < n₀ := by
    refine HK.out.2.2.2.2.2.2 _ (q6 _ (List.mem_append_right _ List.mem_cons_self)) b rfl
   have hst : rest ≠ [] → SlC (.slice (some ⟨b, o + 3, none⟩) m (cp - 1)) rest w2 := fun _ => by
    have := SlC.tail (l := rest) (c0 := c) (b := b) (o := o) (cap := cp) (W := w2) q4
    rwa [hm] at this
   rw [hlen] at hcp1 ⊢
   have z := row.cells (i := 0) (by simp)
   have hbl := row.1
   simp only [Nat.zero_mul, Nat.add_zero] at z
   rw [show (c :: rest, pl).1.getD 0 Ce.zero = c from rfl] at z
   obtain ⟨z0, z1, z2⟩ := z
   have hpl2 : p < w2.heap.size := by have := q3.lt; have := q3.le; omega
   have hpq : q ≠ p := by omega
   have hQ2 := q5.cells HQ.out hpq (by decide)
   have hql2 : q < w2.heap.size := (Go.ltA hQ2)
   have hqn : n₀ ≤ q := by have := HK.out.2.2.2.2.2.1; omega
   have nbA := (Below.refl w2.heap.size w2).alloc (Nat.le_refl _) (.cells #[.slice none 0 0, .int .i64 0] 176)
   have hr0 := heap_alloc_new w2 (.cells #[.slice none 0 0, .int .i64 0] 176)
   have hAs : (w2.alloc (.cells #[.slice none 0 0, .int .i64 0] 176)).heap.size = w2.heap.size + 1 := by simp
   obtain ⟨r0, hr0e⟩ : ∃ r0, w2.heap.size = r0 := ⟨_, rfl⟩
   obtain ⟨wA, hwA⟩ : ∃ wA, w2.alloc (.cells #[.slice none 0 0, .int .i64 0] 176) = wA := ⟨_, rfl⟩
   rw [hwA] at hr0 hAs nbA
   rw [hr0e] at hr0 hAs
   have a0 : wA.cell? ⟨r0, 0, none⟩ = some (.slice none 0 0) := by simp [World.cell?, hr0]
   have a1 : wA.cell? ⟨r0, 1, none⟩ = some (.int .i64 0) := by simp [World.cell?, hr0]
   have af0 : wA.frozen? ⟨r0, 0, none⟩ = false := by simp [World.frozen?, hr0]
   have af1 : wA.frozen? ⟨r0, 1, none⟩ = false := by simp [World.frozen?, hr0]
   have nbB : Below w2.heap.size w2 ((wA.setCell ⟨r0, 0, none⟩ (.slice (some ⟨b, o, none⟩) (m + 1) cp)).setCell ⟨r0, 1, none⟩ (.int .i64 (pl : Int))) := below_set (below_set nbA (by omega) 0 _) (by omega) 1 _
   have hrB : ((wA.setCell ⟨r0, 0, none⟩ (.slice (some ⟨b, o, none⟩) (m + 1) cp)).setCell ⟨r0, 1, none⟩ (.int .i64 (pl : Int))).heap[r0]? = some (.cells #[.slice (some ⟨b, o, none⟩) (m + 1) cp, .int .i64 (pl : Int)] 176 (0, 0)) := set2 hr0
   have hsB : ((wA.setCell ⟨r0, 0, none⟩ (.slice (some ⟨b, o, none⟩) (m + 1) cp)).setCell ⟨r0, 1, none⟩ (.int .i64 (pl : Int))).heap.size = r0 + 1 := by rw [World.size_setCell, World.size_setCell, hAs]
   obtain ⟨wB, hwB⟩ : ∃ wB, (wA.setCell ⟨r0, 0, none⟩ (.slice (some ⟨b, o, none⟩) (m + 1) cp)).setCell ⟨r0, 1, none⟩ (.int .i64 (pl : Int)) = wB := ⟨_, rfl⟩
   rw [hwB] at nbB hrB hsB
   have x0 : wB.cell? ⟨r0, 0, none⟩ = some (.slice (some ⟨b, o, none⟩) (m + 1) cp) := by simp [World.cell?, hrB]
   have y0 := (nbB.cell (p := ⟨b, o, none⟩) hbl).trans z0
   have y1 := (nbB.cell (p := ⟨b, o + 1, none⟩) hbl).trans z1
   have y2 := (nbB.cell (p := ⟨b, o + 2, none⟩) hbl).trans z2
   have nbC := nbB.alloc nbB.size (.cells #[.string ⟨#[]⟩, .int .i64 0, .string ⟨#[]⟩] 38)
   have hc0 := heap_alloc_new wB (.cells #[.string ⟨#[]⟩, .int .i64 0, .string ⟨#[]⟩] 38)
   have hrC := (Below.heap_alloc wB (.cells #[.string ⟨#[]⟩, .int .i64 0, .string ⟨#[]⟩] 38) r0 (by omega)).trans hrB
   rw [hsB] at hc0
   obtain ⟨wC, hwC⟩ : ∃ wC, wB.alloc (.cells #[.string ⟨#[]⟩, .int .i64 0, .string ⟨#[]⟩] 38) = wC := ⟨_, rfl⟩
   rw [hwC] at nbC hc0 hrC
   have d0 : wC.cell? ⟨r0 + 1, 0, none⟩ = some (.string ⟨#[]⟩) := by simp [World.cell?, hc0]
   have d1 : wC.cell? ⟨r0 + 1, 1, none⟩ = some (.int .i64 0) := by simp [World.cell?, hc0]
   have d2 : wC.cell? ⟨r0 + 1, 2, none⟩ = some (.string ⟨#[]⟩) := by simp [World.cell?, hc0]
   have df0 : wC.frozen? ⟨r0 + 1, 0, none⟩ = false := by simp [World.frozen?, hc0]
   have df1 : wC.frozen? ⟨r0 + 1, 1, none⟩ = false := by simp [World.frozen?, hc0]
   have df2 : wC.frozen? ⟨r0 + 1, 2, none⟩ = false := by simp [World.frozen?, hc0]
   have nbD : Below w2.heap.size w2 (((wC.setCell ⟨r0 + 1, 0, none⟩ (.string ⟨c.k.toArray⟩)).setCell ⟨r0 + 1, 1, none⟩ (.int .i64 c.q)).setCell ⟨r0 + 1, 2, none⟩ (.string ⟨c.v.toArray⟩)) := below_set (below_set (below_set nbC (by omega) 0 _) (by omega) 1 _) (by omega) 2 _
   have hcD : (((wC.setCell ⟨r0 + 1, 0, none⟩ (.string ⟨c.k.toArray⟩)).setCell ⟨r0 + 1, 1, none⟩ (.int .i64 c.q)).setCell ⟨r0 + 1, 2, none⟩ (.string ⟨c.v.toArray⟩)).heap[r0 + 1]? = some (.cells #[.string ⟨c.k.toArray⟩, .int .i64 c.q, .string ⟨c.v.toArray⟩] 38 (0, 0)) := set3 hc0
   have hrD : (((wC.setCell ⟨r0 + 1, 0, none⟩ (.string ⟨c.k.toArray⟩)).setCell ⟨r0 + 1, 1, none⟩ (.int .i64 c.q)).setCell ⟨r0 + 1, 2, none⟩ (.string ⟨c.v.toArray⟩)).heap[r0]? = some (.cells #[.slice (some ⟨b, o, none⟩) (m + 1) cp, .int .i64 (pl : Int)] 176 (0, 0)) :=
    (Below.heap_setCell _ ⟨r0 + 1, 2, none⟩ _ r0 (show r0 ≠ r0 + 1 by omega)).trans ((Below.heap_setCell _ ⟨r0 + 1, 1, none⟩ _ r0 (show r0 ≠ r0 + 1 by omega)).trans ((Below.heap_setCell _ ⟨r0 + 1, 0, none⟩ _ r0 (show r0 ≠ r0 + 1 by omega)).trans hrC))
   obtain ⟨wD, hwD⟩ : ∃ wD, ((wC.setCell ⟨r0 + 1, 0, none⟩ (.string ⟨c.k.toArray⟩)).setCell ⟨r0 + 1, 1, none⟩ (.int .i64 c.q)).setCell ⟨r0 + 1, 2, none⟩ (.string ⟨c.v.toArray⟩) = wD := ⟨_, rfl⟩
   rw [hwD] at nbD hcD hrD
   have e0 : wD.cell? ⟨r0, 0, none⟩ = some (.slice (some ⟨b, o, none⟩) (m + 1) cp) := by simp [World.cell?, hrD]
   have ef0 : wD.frozen? ⟨r0, 0, none⟩ = false := by simp [World.frozen?, hrD]
   obtain ⟨o2, ho2⟩ : ∃ o2, (if cp = 1 then o else o + 3) = o2 := ⟨_, rfl⟩
   have nbE : Below w2.heap.size w2 (wD.setCell ⟨r0, 0, none⟩ (.slice (some ⟨b, o2, none⟩) m (cp - 1))) := below_set nbD (by omega) 0 _
   have hrE : (wD.setCell ⟨r0, 0, none⟩ (.slice (some ⟨b, o2, none⟩) m (cp - 1))).heap[r0]? = some (.cells #[.slice (some ⟨b, o2, none⟩) m (cp - 1), .int .i64 (pl : Int)] 176 (0, 0)) := by rw [heap_setCell_same wD r0 0 _ _ _ hrD]; rfl
   have hcE := (Below.heap_setCell wD ⟨r0, 0, none⟩ (.slice (some ⟨b, o2, none⟩) m (cp - 1)) (r0 + 1) (show r0 + 1 ≠ r0 by omega)).trans hcD
   obtain ⟨wE, hwE⟩ : ∃ wE, wD.setCell ⟨r0, 0, none⟩ (.slice (some ⟨b, o2, none⟩) m (cp - 1)) = wE := ⟨_, rfl⟩
   rw [hwE] at nbE hrE hcE
   have g0 : wE.cell? ⟨r0, 0, none⟩ = some (.slice (some ⟨b, o2, none⟩) m (cp - 1)) := by simp [World.cell?, hrE]
   have g1 : wE.cell? ⟨r0, 1, none⟩ = some (.int .i64 (pl : Int)) := by simp [World.cell?, hrE]
   have hQE := (nbE.block q hql2).trans hQ2
   have fE : RFr p w wE := (HF.out.trans q5).trans (RFr.of nbE (Nat.le_of_lt hpl2))
   have hcp : m + 1 ≤ cp := hcp1
   have has := assert_row (.agg #[.slice (some ⟨b, o, none⟩) (m + 1) cp, .int .i64 (pl : Int)])
   have hmi : (0 : Int) < (m : Int) + 1 := by omega
   have HW := Lib.hid (And.intro fE (And.intro hQE (And.intro hcE (And.intro nbE (And.intro q3 (And.intro q2 (And.intro q1 (And.intro hmin (And.intro hfu (And.intro hst (And.intro q6 hl3)))))))))))
   clear nbA hr0 hAs nbB hrB nbC hc0 hrC nbD hcD hrD nbE hrE hcE hQE fE q1 q2 q3 q4 q5 q6 hmin hfu hst hl3 row hrow hlen hr hc z0 z1 z2 hQ2 hcp1
   by_cases hm0 : m = 0
   · subst hm0
     have hrest : rest = [] := List.eq_nil_of_length_eq_zero hm
     rcases (by omega : cp = 1 ∨ 1 < cp) with hc1 | hc1
     · subst hc1
       obtain rfl : o2 = o := by rw [← ho2, if_pos rfl]
       clear ho2
       obtain ⟨fE, hQE, hcE, nbE, q3, q2, q1, hmin, hfu, hst, q6, hl3⟩ := id HW.out
       have u0 : wE.cell? ⟨r0 + 1, 0, none⟩ = some (.string ⟨c.k.toArray⟩) := by simp [World.cell?, hcE]
       have u1 : wE.cell? ⟨r0 + 1, 1, none⟩ = some (.int .i64 c.q) := by simp [World.cell?, hcE]
       have u2 : wE.cell? ⟨r0 + 1, 2, none⟩ = some (.string ⟨c.v.toArray⟩) := by simp [World.cell?, hcE]
       have v0 : wE.cell? ⟨q, 0, none⟩ = some (.string ⟨#[]⟩) := by simp [World.cell?, hQE]
       have v1 : wE.cell? ⟨q, 1, none⟩ = some (.int .i64 0) := by simp [World.cell?, hQE]
       have v2 : wE.cell? ⟨q, 2, none⟩ = some (.string ⟨#[]⟩) := by simp [World.cell?, hQE]
       have vf0 : wE.frozen? ⟨q, 0, none⟩ = false := by simp [World.frozen?, hQE]
       have vf1 : wE.frozen? ⟨q, 1, none⟩ = false := by simp [World.frozen?, hQE]
       have vf2 : wE.frozen? ⟨q, 2, none⟩ = false := by simp [World.frozen?, hQE]
       have hitE : ItAt p base n₀ H3 wE := ⟨vs3, q3.later nbE, hfu.init.1, q2, by have := HK.out.2.2.2.1; omega, HK.out.2.2.2.2.1, Nat.le_trans (by omega) nbE.size, fun v hv => HK.out.2.2.2.2.2.2 v (q6 v (List.mem_append_left _ hv))⟩
       have HE := Lib.hid (next_end fE hitE hQE hqe hpl hqn (.string ⟨c.k.toArray⟩) (.int .i64 c.q) (.string ⟨c.v.toArray⟩))
       have HS := Lib.hid (show StepR H c H3 from ⟨rest, pl, H3, q1, hmin, by rw [hrest]; exact List.Perm.refl _⟩)
       clear fE hQE hcE nbE q3 q2 q1 hmin hfu hst q6 hl3 hitE
       go_wp2_with fail
       refine bodyPost_ret (v := .tuple #[.agg #[.string ⟨c.k.toArray⟩, .int .i64 c.q, .string ⟨c.v.toArray⟩], .bool true]) (by simp [results, Tryz.results100, go_sem, *]) rfl ?_
       exact ⟨HE.out.1, .inr ⟨c, H3, HS.out, rfl, HE.out.2⟩⟩
     · have hc2 : (1 : Int) < (cp : Int) := by omega
       have hc3 : ¬ cp = 1 := by omega
       have hc4 : ¬ cp - 1 = 0 := by omega
       obtain rfl : o2 = o + 3 := by rw [← ho2, if_neg hc3]
       clear ho2
       obtain ⟨fE, hQE, hcE, nbE, q3, q2, q1, hmin, hfu, hst, q6, hl3⟩ := id HW.out
       have u0 : wE.cell? ⟨r0 + 1, 0, none⟩ = some (.string ⟨c.k.toArray⟩) := by simp [World.cell?, hcE]
       have u1 : wE.cell? ⟨r0 + 1, 1, none⟩ = some (.int .i64 c.q) := by simp [World.cell?, hcE]
       have u2 : wE.cell? ⟨r0 + 1, 2, none⟩ = some (.string ⟨c.v.toArray⟩) := by simp [World.cell?, hcE]
       have v0 : wE.cell? ⟨q, 0, none⟩ = some (.string ⟨#[]⟩) := by simp [World.cell?, hQE]
       have v1 : wE.cell? ⟨q, 1, none⟩ = some (.int .i64 0) := by simp [World.cell?, hQE]
       have v2 : wE.cell? ⟨q, 2, none⟩ = some (.string ⟨#[]⟩) := by simp [World.cell?, hQE]
       have vf0 : wE.frozen? ⟨q, 0, none⟩ = false := by simp [World.frozen?, hQE]
       have vf1 : wE.frozen? ⟨q, 1, none⟩ = false := by simp [World.frozen?, hQE]
       have vf2 : wE.frozen? ⟨q, 2, none⟩ = false := by simp [World.frozen?, hQE]
       have hitE : ItAt p base n₀ H3 wE := ⟨vs3, q3.later nbE, hfu.init.1, q2, by have := HK.out.2.2.2.1; omega, HK.out.2.2.2.2.1, Nat.le_trans (by omega) nbE.size, fun v hv => HK.out.2.2.2.2.2.2 v (q6 v (List.mem_append_left _ hv))⟩
       have HE := Lib.hid (next_end fE hitE hQE hqe hpl hqn (.string ⟨c.k.toArray⟩) (.int .i64 c.q) (.string ⟨c.v.toArray⟩))
       have HS := Lib.hid (show StepR H c H3 from ⟨rest, pl, H3, q1, hmin, by rw [hrest]; exact List.Perm.refl _⟩)
       clear fE hQE hcE nbE q3 q2 q1 hmin hfu hst q6 hl3 hitE
       go_wp2_with fail
       refine bodyPost_ret (v := .tuple #[.agg #[.string ⟨c.k.toArray⟩, .int .i64 c.q, .string ⟨c.v.toArray⟩], .bool true]) (by simp [results, Tryz.results100, go_sem, *]) rfl ?_
       exact ⟨HE.out.1, .inr ⟨c, H3, HS.out, rfl, HE.out.2⟩⟩
   · have hm1 : (0 : Int) < (m : Int) := by omega
     obtain rfl : o2 = o + 3 := by rw [← ho2, if_neg (by omega)]
     clear ho2
     have hrest : rest ≠ [] := fun e => by rw [e] at hm; exact hm0 hm.symm
     have CC := Lib.hid (fun W (hb : Below wE.heap.size wE W) => hpush_any p base H3 vs3 (rest, pl) (.slice (some ⟨b, o + 3, none⟩) m (cp - 1)) W ((HW.out.2.2.2.2.1.later HW.out.2.2.2.1).later hb) HW.out.2.2.2.2.2.2.2.2.1.init.1 HW.out.2.2.2.2.2.1 ((HW.out.2.2.2.2.2.2.2.2.2.1 hrest).later HW.out.2.2.2.1 |>.later hb) hrest (by have := HW.out.2.2.2.2.2.2.2.2.2.2.2; have := HK.out.2.2.2.1; omega))
     go_wp2_with fail
     go_region_with ((go_at_call 98; refine (CC.out _ (Below.drew (Below.refl _ _))).mono ?_; rintro e w5 ⟨rfl, H5, vs5, r1, r2, r3, r4, r5⟩))
     obtain ⟨fE, hQE, hcE, nbE, q3, q2, q1, hmin, hfu, hst, q6, hl3⟩ := id HW.out
     have hple : p < wE.heap.size := Nat.lt_of_lt_of_le hpl2 nbE.size
     have f5 := (RFr.of (p := p) (Below.drew (Below.refl wE.heap.size wE)) (Nat.le_of_lt hple)).trans r4
     have hQ5 := f5.cells hQE hpq (by decide)
     have hc5 := f5.cells hcE (by omega) (by decide)
     have u0 : w5.cell? ⟨r0 + 1, 0, none⟩ = some (.string ⟨c.k.toArray⟩) := by simp [World.cell?, hc5]
     have u1 : w5.cell? ⟨r0 + 1, 1, none⟩ = some (.int .i64 c.q) := by simp [World.cell?, hc5]
     have u2 : w5.cell? ⟨r0 + 1, 2, none⟩ = some (.string ⟨c.v.toArray⟩) := by simp [World.cell?, hc5]
     have v0 : w5.cell? ⟨q, 0, none⟩ = some (.string ⟨#[]⟩) := by simp [World.cell?, hQ5]
     have v1 : w5.cell? ⟨q, 1, none⟩ = some (.int .i64 0) := by simp [World.cell?, hQ5]
     have v2 : w5.cell? ⟨q, 2, none⟩ = some (.string ⟨#[]⟩) := by simp [World.cell?, hQ5]
     have vf0 : w5.frozen? ⟨q, 0, none⟩ = false := by simp [World.frozen?, hQ5]
     have vf1 : w5.frozen? ⟨q, 1, none⟩ = false := by simp [World.frozen?, hQ5]
     have vf2 : w5.frozen? ⟨q, 2, none⟩ = false := by simp [World.frozen?, hQ5]
     have hit5 : ItAt p base n₀ H5 w5 := by
      refine ⟨vs5, r3, (hfu.init.1.snoc (r := (rest, pl)) hrest).perm r1, r2, ?_, HK.out.2.2.2.2.1, ?_, fun v hv => ?_⟩
      · have := r1.length_eq
        rw [List.length_append, List.length_singleton] at this
        have := HK.out.2.2.2.1
        omega
      · have := (fE.trans f5).1.size
        have := HK.out.2.2.2.2.2.1
        omega
      · rcases List.mem_append.1 (r5 v hv) with h | h
        · exact HK.out.2.2.2.2.2.2 v (q6 v (List.mem_append_left _ h))
        · have e := List.mem_singleton.1 h
          subst e
          intro b' e
          have e2 : b = b' := by simpa [Value.ownBlock] using e
          omega
     have HE := Lib.hid (next_end (fE.trans f5) hit5 hQ5 hqe hpl hqn (.string ⟨c.k.toArray⟩) (.int .i64 c.q) (.string ⟨c.v.toArray⟩))
     have HS := Lib.hid (show StepR H c H5 from ⟨rest, pl, H3, q1, hmin, by rw [if_neg hrest]; exact r1⟩)
     clear fE hQE hcE nbE q3 q2 q1 hmin hfu hst q6 hl3 hit5 hQ5 hc5 f5 r1 r2 r3 r4 r5
     go_wp2_with fail
     refine bodyPost_ret (v := .tuple #[.agg #[.string ⟨c.k.toArray⟩, .int .i64 c.q, .string ⟨c.v.toArray⟩], .bool true]) (by simp [results, Tryz.results100, go_sem, *]) rfl ?_
     exact ⟨HE.out.1, .inr ⟨c, H5, HS.out, rfl, HE.out.2⟩⟩
def RowsIn (s : Value) (Rs : List (List Ce)) (W : World) : Prop := ∃ A cap, s = .slice A Rs.length cap ∧ Rs.length ≤ cap ∧ cap ≤ maxLen ∧ ∀ k, k < Rs.length → ∃ rb o v, A = some ⟨rb, o, none⟩ ∧ rb < W.heap.size ∧ W.cell? ⟨rb, o + k, none⟩ = some v ∧ SlAt v (Rs.getD k []) W
theorem RowsIn.later {s : Value} {Rs : List (List Ce)} {W W' : World} (h : RowsIn s Rs W) (hb : Below W.heap.size W W') : RowsIn s Rs W' := by
 obtain ⟨A, cap, rfl, h1, h2, h3⟩ := h
 refine ⟨A, cap, rfl, h1, h2, fun k hk => ?_⟩
 obtain ⟨rb, o, v, e, hr, hc, hs⟩ := h3 k hk
 exact ⟨rb, o, v, e, Nat.lt_of_lt_of_le hr hb.size, (hb.cell (p := ⟨rb, o + k, none⟩) hr).trans hc, hs.later hb⟩
def NewAt (w : World) (p : Nat) (R : List (List Ce)) (wr : World) : Prop := ∃ H vs, HpAt p (p + 1) H vs wr ∧ Full H ∧ HeapR H.length H ∧ H.Perm (plRows 0 R) ∧ Below w.heap.size w wr
theorem NewAt.it {w : World} {p : Nat} {R : List (List Ce)} {wr : World} (h : NewAt w p R wr) (hR : R.length ≤ 100000) : ∃ H, ItAt p (p + 1) wr.heap.size H wr ∧ H.Perm (plRows 0 R) := by
 obtain ⟨H, vs, h1, h2, h3, h4, h5⟩ := h
 refine ⟨H, ⟨vs, h1, h2, h3, ?_, ?_, Nat.le_refl _, fun v hv b hb => ?_⟩, h4⟩
 · have := h4.length_eq; have := plRows_len R 0; omega
 · have := h1.lt; have := h1.le; omega
 · obtain ⟨i, hi, e⟩ := List.getElem_of_mem hv
   have hi2 : i < H.length := by rw [← h1.len]; exact hi
   obtain ⟨cur, hc⟩ := (h1.sl i hi2).2 b (by rw [show vs.getD i undef = vs[i] by simp [List.getD, hi], e]; exact hb)
   exact (Go.ltA hc)
theorem SlC.page {b c : Nat} {l : List Ce} {W : World} {n : Nat} (h : PageAt (.slice (some ⟨b, 0, none⟩) n c) l b W) : SlC (.slice (some ⟨b, 0, none⟩) n c) l W := by
 have hr := h.row
 obtain ⟨cap, cur, e, h1, h2, h3, -⟩ := h
 cases e
 exact ⟨⟨_, _, rfl, h1, h2, fun _ => ⟨_, _, rfl, hr.2⟩⟩, fun b' e => by
  have : b = b' := by simpa [Value.ownBlock] using e
  exact ⟨cur, by rw [← this]; exact h3⟩⟩
set_option maxRecDepth 100000 in
set_option maxHeartbeats 4000000 in
theorem newIt_any (s : Value) (Rs : List (List Ce)) (w : World) (hR : RowsIn s Rs w) (hn : Rs.length ≤ 1000) (hf : ∀ r ∈ Rs, r.length ≤ 100000 ∧ (∀ c ∈ r, FitsC c) ∧ sortedB r = true) :
 Calls Tryz.prog 78 #[s] w fun e w' => e = .returned (.tuple #[.pointer (some ⟨w.heap.size, 0, none⟩), .int .i64 0]) ∧ NewAt w w.heap.size Rs w' := by
 have hz := heap_alloc_new w (.cells #[.slice none 0 0] 172)
 have nb := (Below.refl w.heap.size w).alloc (Nat.le_refl _) (.cells #[.slice none 0 0] 172)
 have h0 : NewAt w w.heap.size [] (w.alloc (.cells #[.slice none 0 0] 172)) :=
  ⟨[], [], ⟨⟨_, hz, World.ownsRow_nil _ _ _ _⟩, rfl, fun i hi => by simp at hi, by omega, by simp⟩, fun i hi => by simp at hi, fun i hi => by simp at hi, List.Perm.refl _, nb⟩
 obtain ⟨p, hpe⟩ : ∃ p, w.heap.size = p := ⟨_, rfl⟩
 rw [hpe] at h0 ⊢
 obtain ⟨w1, hw1⟩ : ∃ w1, w.alloc (.cells #[.slice none 0 0] 172) = w1 := ⟨_, rfl⟩
 rw [hw1] at h0
 have HR := Lib.hid hR
 have HF := Lib.hid hf
 obtain ⟨A, cap, rfl, -⟩ := id hR
 obtain ⟨n, hnn⟩ : ∃ n, Rs.length = n := ⟨_, rfl⟩
 have HN := Lib.hid hnn
 have H0 := Lib.hid h0
 rw [hnn] at hn ⊢
 clear hR hf hz nb h0 hnn
 go_enter Tryz.func78, Tryz.ntmps78
 go_wp2_with fail
 go_loopw [11] (fun iv wr => ∃ k : Nat, k ≤ n ∧ iv = .int .i64 k ∧ Hid (NewAt w p (Rs.take k) wr)) (fun iv _ => n - (intOf iv).toNat)
 case atStart => exact ⟨0, by omega, rfl, Lib.hid H0.out⟩
 case round =>
  obtain ⟨k, hk, rfl, HI⟩ := hrel
  by_cases hkn : k < n
  · have hki : (k : Int) < (n : Int) := by omega
    obtain ⟨H, vs, h1, h2, h3, h4, h5⟩ := id HI.out
    obtain ⟨A', cap', e, hc1, hc2, hrow⟩ := HR.out.later h5
    obtain ⟨rb, o, v, rfl, hrb, hcell, hsl⟩ := hrow k (by rw [HN.out]; exact hkn)
    cases e
    obtain ⟨r, hr⟩ : ∃ r, Rs.getD k [] = r := ⟨_, rfl⟩
    have hrm : r ∈ Rs := by
     rw [← hr, show Rs.getD k [] = Rs[k]'(by rw [HN.out]; exact hkn) by simp [List.getD, show k < Rs.length by rw [HN.out]; exact hkn]]
     exact List.getElem_mem _
    rw [hr] at hsl
    have htake : Rs.take (k + 1) = Rs.take k ++ [r] := by
     rw [List.take_add_one, ← hr]
     simp [List.getD, show k < Rs.length by rw [HN.out]; exact hkn]
    obtain ⟨r1, r2, r3⟩ := HF.out r hrm
    have CS := sortedC_any v r wr hsl r2
    rw [r3] at CS
    have CSR := Lib.hid CS
    obtain ⟨m, hm⟩ : ∃ m, r.length = m := ⟨_, rfl⟩
    have HSL := Lib.hid hsl
    obtain ⟨A1, cp1, rfl, hl1, hl2, hrw1⟩ := id hsl
    rw [hm] at CSR hl1 hcell
    have hlk : (Rs.take k).length = k := by rw [List.length_take, HN.out]; omega
    have HH := Lib.hid (And.intro h1 (And.intro h2 (And.intro h3 (And.intro h4 (And.intro h5 (And.intro htake (And.intro hlk (And.intro hm r1))))))))
    clear h1 h2 h3 h4 h5 hrow hsl CS htake hrm hr hc1 hc2 hrw1 HI hlk r1 r2 r3 hm
    go_wp2_with fail
    refine CSR.out.mono ?_
    rintro e w2 ⟨rfl, b2⟩
    by_cases hm0 : m = 0
    · have hm1 : ¬ (0 : Int) < (m : Int) := by omega
      have HE := Lib.hid (show NewAt w p (Rs.take (k + 1)) w2 from ⟨H, vs, HH.out.1.later b2, HH.out.2.1, HH.out.2.2.1, by
       rw [HH.out.2.2.2.2.2.1, plRows_snoc, if_pos (List.eq_nil_of_length_eq_zero (by rw [HH.out.2.2.2.2.2.2.2.1]; exact hm0)), List.append_nil]; exact HH.out.2.2.2.1, HH.out.2.2.2.2.1.trans (b2.mono HH.out.2.2.2.2.1.size)⟩)
      clear b2
      go_wp2_with fail
      go_roundw
      case rel => exact ⟨k + 1, by omega, by simp <;> omega, Lib.hid HE.out⟩
      case measure => simp [intOf]; omega
    · have hm1 : (0 : Int) < (m : Int) := by omega
      obtain ⟨A2, c2, e2, -, -, hrw2⟩ := id HSL.out
      cases e2
      obtain ⟨b, o2, rfl, row⟩ := hrw2 (by rw [HH.out.2.2.2.2.2.2.2.1]; omega)
      have bD : Below wr.heap.size wr w2.drew := Below.drew b2
      have CL := Lib.hid (cloneC_any b o2 m cp1 r w2.drew HH.out.2.2.2.2.2.2.2.1 (by omega) (by have := HH.out.2.2.2.2.2.2.2.2; have := HH.out.2.2.2.2.2.2.2.1; omega) (row.later bD row.1))
      have hrn : r ≠ [] := fun e => by have := HH.out.2.2.2.2.2.2.2.1; rw [e] at this; exact hm0 this.symm
      have hHl : H.length ≤ k := by have := HH.out.2.2.2.1.length_eq; have := plRows_len (Rs.take k) 0; have := HH.out.2.2.2.2.2.2.1; omega
      have PU := Lib.hid (fun (w3 : World) (b' cap' : Nat) (b3 : Below w2.drew.heap.size w2.drew w3) (hb' : w2.drew.heap.size ≤ b') (hP : PageAt (.slice (some ⟨b', 0, none⟩) m cap') r b' w3) => show (Calls Tryz.prog 98 #[.iface 174 (.pointer (some ⟨p, 0, none⟩)), .iface 176 (.agg #[.slice (some ⟨b', 0, none⟩) m cap', .int .i64 (k : Int)])] w3 fun e w' => e = .returned (.tuple #[]) ∧ NewAt w p (Rs.take (k + 1)) w') from by
       have bb : Below wr.heap.size wr w3 := bD.trans (b3.mono bD.size)
       refine (hpush_any p (p + 1) H vs (r, k) _ w3 (HH.out.1.later bb) HH.out.2.1 HH.out.2.2.1 (SlC.page hP) hrn (by omega)).mono ?_
       rintro e w' ⟨rfl, H', vs', q1, q2, q3, q4, q5⟩
       refine ⟨rfl, H', vs', q3, (HH.out.2.1.snoc (r := (r, k)) hrn).perm q1, q2, ?_, ?_⟩
       · rw [HH.out.2.2.2.2.2.1, plRows_snoc, if_neg hrn, HH.out.2.2.2.2.2.2.1, Nat.zero_add]
         exact q1.trans (HH.out.2.2.2.1.append_right _)
       · exact (HH.out.2.2.2.2.1.trans (bb.mono HH.out.2.2.2.2.1.size)).trans (by rw [hpe]; exact q4.1))
      have HRO := Lib.hid row
      clear b2 bD row
      go_wp2_with fail
      refine (wpIn_wide (n := 5)).1 ?_
      refine wpIn_region_lit_late (fun _ => True) (fun _ => false) (k := 10) (listed := #[false, false, false, false, false, false, false, false, false, false]) (by kernel_rfl) (by kernel_rfl) (by kernel_rfl) ?_
      have hS : True := trivial
      refine AnyS.yes 0 22 ?_ rfl rfl (by kernel_rfl) (fun _ _ _ _ _ => id) hS (fun _ => rfl) ?_ ?_; rotate_left; intro w' hw'; go_simp; with_reducible rfl; simp only [zP,zS,zC,zZ]
      refine AnyS.yes 1 23 ?_ rfl rfl (by kernel_rfl) (fun _ _ _ _ _ => id) hS (fun _ => rfl) ?_ ?_; rotate_left; intro w' hw'; go_simp; with_reducible rfl; simp only [zP,zS,zC,zZ]
      refine AnyS.yes 2 24 ?_ rfl rfl (by kernel_rfl) (fun _ _ _ _ _ => id) hS (fun _ => rfl) ?_ ?_; rotate_left; intro w' hw'; go_simp; with_reducible rfl; simp only [zP,zS,zC,zZ]
      refine AnyS.yes 3 25 ?_ rfl rfl (by kernel_rfl) (fun _ _ _ _ _ => id) hS (fun _ => rfl) ?_ ?_; rotate_left; intro w' hw'; go_simp; with_reducible rfl; simp only [zP,zS,zC,zZ]
      refine AnyS.yes 4 26 ?_ rfl rfl (by kernel_rfl) (fun _ _ _ _ _ => id) hS (fun _ => rfl) ?_ ?_; rotate_left; intro w' hw'; go_simp; with_reducible rfl; simp only [zP,zS,zC,zZ]
      refine AnyS.yes 6 28 ?_ rfl rfl (by kernel_rfl) (fun _ _ _ _ _ => id) hS (fun _ => rfl) ?_ ?_; rotate_left; intro w' hw'; go_simp; with_reducible rfl; simp only [zP,zS,zC,zZ]
      refine AnyS.next (i := 5) rfl (by kernel_rfl) (by kernel_rfl) fun K' hK' => ?_
      refine want_yes (by kernel_rfl) ?_
      go_simp
      refine ⟨trivial, (callsIn_wide.2 CL.out).mono ?_⟩
      rintro e w3 ⟨b3, b', cap', rfl, hb', hP⟩
      have CP := Lib.hid (PU.out w3 b' cap' b3 hb' hP)
      clear b3 hb' hP
      refine hK' _ _ (fun _ => trivial) ?_
      clear hK' K'
      simp only [zP,zN,zS,zC,zZ]
      refine AnyS.yes 7 29 ?_ rfl rfl (by kernel_rfl) (fun _ _ _ _ _ => id) hS (fun _ => rfl) ?_ ?_; rotate_left; intro w' hw'; go_simp; with_reducible rfl; simp only [zP,zS,zC,zZ]
      refine AnyS.yes 8 30 ?_ rfl rfl (by kernel_rfl) (fun _ _ _ _ _ => id) hS (fun _ => rfl) ?_ ?_; rotate_left; intro w' hw'; go_simp; with_reducible rfl; simp only [zP,zS,zC,zZ]
      refine AnyS.next (i := 9) rfl (by kernel_rfl) (by kernel_rfl) fun K' hK' => ?_
      refine want_yes (by kernel_rfl) ?_
      go_simp
      refine ⟨trivial, (callsIn_wide.2 CP.out).mono ?_⟩
      rintro e w4 ⟨rfl, HQ⟩
      refine hK' _ _ (fun _ => trivial) ?_
      clear hK' K' hS
      try simp only [zP,zN,zS,zC,zZ]
      refine AnyS.done (by kernel_rfl) ?_ _
      have HE := Lib.hid (HQ)
      clear HQ
      go_wp2_with fail
      go_roundw
      case rel => exact ⟨k + 1, by omega, by simp <;> omega, Lib.hid HE.out⟩
      case measure => simp [intOf]; omega
  · have hki : ¬ (k : Int) < (n : Int) := by omega
    have HE := Lib.hid (show NewAt w p Rs wr by have := HI.out; rwa [List.take_of_length_le (by rw [HN.out]; omega)] at this)
    clear HI
    go_wp2_with fail
    refine bodyPost_ret (v := .tuple #[.pointer (some ⟨p, 0, none⟩), .int .i64 0]) (by simp [results, Tryz.results78, go_sem, *]) rfl ?_
    exact ⟨rfl, HE.out⟩
attribute [local go_sem] Oper.semAt_some
def OutV (B n₀ : Nat) (v : Value) (W : World) : Prop := Boxed W B 22 v ∧ ∀ k, v.ownBlock = some k → n₀ ≤ k ∧ ∃ cur, W.heap[k]? = some (.cells cur 38 (0, 0))
def RBo (B n₀ : Nat) (W W' : World) : Prop := W.heap.size ≤ W'.heap.size ∧ ∀ v, OutV B n₀ v W → ∃ v', OutV B n₀ v' W' ∧ (∀ k, v'.ownBlock = some k → v.ownBlock = some k ∨ W.heap.size ≤ k) ∧
 ∀ (k : Nat) (cur : Array Value) (t : TypeId), W.heap[k]? = some (.cells cur t (0, 0)) → k ≠ B → v.ownBlock ≠ some k → W'.heap[k]? = some (.cells cur t (0, 0))
theorem RBo.trans {B n₀ : Nat} {a b c : World} (h : RBo B n₀ a b) (k : RBo B n₀ b c) : RBo B n₀ a c := by
 refine ⟨Nat.le_trans h.1 k.1, fun v hv => ?_⟩
 obtain ⟨v1, h1, h2, h3⟩ := h.2 v hv
 obtain ⟨v2, k1, k2, k3⟩ := k.2 v1 h1
 refine ⟨v2, k1, fun x hx => ?_, fun x cur t hx hB hv => ?_⟩
 · rcases k2 x hx with e | e
   · exact h2 x e
   · exact .inr (Nat.le_trans h.1 e)
 · refine k3 x cur t (h3 x cur t hx hB hv) hB fun e => ?_
   rcases h2 x e with e | e
   · exact hv e
   · have := (Go.ltA hx); omega
theorem RBo.of {B n₀ : Nat} {W W' : World} (hs : W.heap.size ≤ W'.heap.size) (h : ∀ (k : Nat) (cur : Array Value) (t : TypeId), W.heap[k]? = some (.cells cur t (0, 0)) → W'.heap[k]? = some (.cells cur t (0, 0))) : RBo B n₀ W W' :=
 ⟨hs, fun v hv => ⟨v, ⟨h _ _ _ hv.1, fun k hk => by obtain ⟨h1, cur, h2⟩ := hv.2 k hk; exact ⟨h1, cur, h _ _ _ h2⟩⟩, fun _ e => .inl e, fun k cur t hk _ _ => h k cur t hk⟩⟩
theorem RBo.below {B n₀ : Nat} {W W' : World} (h : Below W.heap.size W W') : RBo B n₀ W W' := RBo.of h.size fun k cur t hk => (h.block k (Go.ltA hk)).trans hk
theorem RBo.put {B n₀ l : Nat} {W : World} {o : Obj} (o' : Obj) (h : W.heap[l]? = some o) (ho : o.isCells = false) : RBo B n₀ W (W.putObj l o') :=
 RBo.of (by simp) fun k cur t hk => (World.putObj_heap_other fun e => by rw [e, h] at hk; cases hk; cases ho).trans hk
theorem OutV.rfr {p B n₀ : Nat} {v : Value} {W W' : World} (h : OutV B n₀ v W) (f : RFr p W W') (hB : B ≠ p) (hp : ∀ cur, W.heap[p]? ≠ some (.cells cur 38 (0, 0))) : OutV B n₀ v W' :=
 ⟨f.cells h.1 hB (by decide), fun k hk => by
   obtain ⟨h1, cur, h2⟩ := h.2 k hk
   exact ⟨h1, cur, f.cells h2 (fun e => hp cur (by rw [← e]; exact h2)) (by decide)⟩⟩
theorem ItAt.rbo {p base n₀ B : Nat} {H : List Rw} {v : Value} {W W' : World} (h : ItAt p base n₀ H W) (hv : OutV B n₀ v W) (f : RBo B n₀ W W') : ItAt p base n₀ H W' := by
 obtain ⟨v', -, -, key⟩ := f.2 v hv
 obtain ⟨vs, h1, h2, h3, h4, h5, h6, h7⟩ := h
 obtain ⟨u, k1, k2⟩ := h1.own
 have typ : ∀ (k : Nat) (cur : Array Value) (t : TypeId), W.heap[k]? = some (.cells cur t (0, 0)) → t ≠ 22 → (t ≠ 38 ∨ k < n₀) → W'.heap[k]? = some (.cells cur t (0, 0)) := fun k cur t hk ht ht2 => by
  refine key k cur t hk (fun e => ?_) fun e => ?_
  · have hb := hv.1
    unfold Boxed at hb
    rw [e, hb] at hk
    simp only [Option.some.injEq, Obj.cells.injEq] at hk
    exact ht hk.2.1.symm
  · obtain ⟨g1, cur2, g2⟩ := hv.2 k e
    rw [g2] at hk
    simp only [Option.some.injEq, Obj.cells.injEq] at hk
    rcases ht2 with ht2 | ht2
    · exact ht2 hk.2.1.symm
    · omega
 have slk : ∀ i, i < H.length → SlC (vs.getD i undef) (H.getD i rz).1 W' := fun i hi => by
  have hs := h1.sl i hi
  have hbn := h7 _ (getD_mem (i := i) (by rw [h1.len]; exact hi))
  have keyb : ∀ b, (vs.getD i undef).ownBlock = some b → W'.heap[b]? = W.heap[b]? := fun b e => by
   obtain ⟨cur, hc⟩ := hs.2 b e
   exact (typ b cur _ hc (by decide) (.inr (hbn b e))).trans hc.symm
  obtain ⟨w0, hw0⟩ : ∃ w0, vs.getD i undef = w0 := ⟨_, rfl⟩
  rw [hw0] at hs keyb ⊢
  refine ⟨?_, fun b e => ?_⟩
  · obtain ⟨A, cap, rfl, s1, s2, s3⟩ := hs.1
    refine ⟨A, cap, rfl, s1, s2, fun hl => ?_⟩
    obtain ⟨b, o2, rfl, hrow⟩ := s3 hl
    have hk := keyb b rfl
    refine ⟨b, o2, rfl, Nat.lt_of_lt_of_le hrow.1 f.1, fun i hi j u hj => ?_⟩
    rw [World.cell?_of_block (w := W) hk]
    exact hrow.2 i hi j u hj
  · obtain ⟨cur, hc⟩ := hs.2 b e
    exact ⟨cur, (keyb b e).trans hc⟩
 refine ⟨vs, ⟨⟨u, typ _ _ _ k1 (by decide) (.inl (by decide)), ownRow_same k2 fun g hg => ?_⟩, h1.len, slk, h1.lt, Nat.le_trans h1.le f.1⟩, h2, h3, h4, h5, Nat.le_trans h6 f.1, h7⟩
 rcases k2.2 with ⟨rfl, _⟩ | ⟨g2, cap, cur, rfl, _, hgb, _⟩
 · simp [Value.ownBlock] at hg
 · have e2 : g2 = g := by simpa [Value.ownBlock] using hg
   rw [← e2]
   exact (typ _ _ _ hgb (by decide) (.inl (by decide))).trans hgb.symm
theorem ItAt.notCell {p base n₀ : Nat} {H : List Rw} {W : World} (h : ItAt p base n₀ H W) : ∀ cur, W.heap[p]? ≠ some (.cells cur 38 (0, 0)) := by
 obtain ⟨vs, h1, -⟩ := h
 exact h1.notCell
def Pend (p base n₀ : Nat) (H : List Rw) (pre : List Ce) (c : Ce) (ok : Bool) (W : World) : Prop :=
 (ok = false ∧ RunsTo H pre [] ∧ ItAt p base n₀ [] W) ∨ (ok = true ∧ ∃ H1 H2, RunsTo H pre H1 ∧ StepR H1 c H2 ∧ ItAt p base n₀ H2 W)
theorem nextP_any (p base n₀ : Nat) (H H1 : List Rw) (pre : List Ce) (w : World) (h : ItAt p base n₀ H1 w) (hr : RunsTo H pre H1) :
 Calls Tryz.prog 100 #[.pointer (some ⟨p, 0, none⟩)] w fun e w' => RFr p w w' ∧ ∃ c ok, e = .returned (.tuple #[ceVal c, .bool ok]) ∧ Pend p base n₀ H pre c ok w' :=
 (nextM_any p base n₀ H1 w h).mono fun e w' ⟨h1, h2⟩ => ⟨h1, by
   rcases h2 with ⟨rfl, e1, h3⟩ | ⟨c, H2, h3, e1, h4⟩
   · exact ⟨_, _, e1, .inl ⟨rfl, hr, h3⟩⟩
   · exact ⟨_, _, e1, .inr ⟨rfl, _, _, hr, h3, h4⟩⟩⟩
attribute [local go_sem] Oper.semAt_some
theorem least_ex {P : Nat → Prop} (h : ∃ m, P m) : ∃ m, P m ∧ ∀ k, P k → m ≤ k := by
 obtain ⟨m, hm⟩ := h
 induction m using Nat.strongRecOn with
 | ind m ih =>
   by_cases hk : ∃ k, k < m ∧ P k
   · obtain ⟨k, h1, h2⟩ := hk
     exact ih k h1 h2
   · exact ⟨m, hm, fun k hp => Nat.le_of_not_lt fun hlt => hk ⟨k, hlt, hp⟩⟩
noncomputable def leastN (P : Nat → Prop) : Nat := open Classical in if h : ∃ m, P m then (least_ex h).choose else 0
theorem leastN_spec {P : Nat → Prop} (h : ∃ m, P m) : P (leastN P) := by
 unfold leastN
 rw [dif_pos h]
 exact (least_ex h).choose_spec.1
theorem leastN_le {P : Nat → Prop} {m : Nat} (h : P m) : leastN P ≤ m := by
 unfold leastN
 rw [dif_pos ⟨m, h⟩]
 exact (least_ex ⟨m, h⟩).choose_spec.2 m h
theorem OutV.apart {B n₀ k : Nat} {W : World} {v : Value} {cur : Array Value} {t : TypeId} (hv : OutV B n₀ v W) (hk : W.heap[k]? = some (.cells cur t (0, 0))) (ht : t ≠ 22) (ht2 : t ≠ 38) : k ≠ B ∧ v.ownBlock ≠ some k := by
 refine ⟨fun e => ?_, fun e => ?_⟩
 · have hb := hv.1
   unfold Boxed at hb
   rw [e, hb] at hk
   simp only [Option.some.injEq, Obj.cells.injEq] at hk
   exact ht hk.2.1.symm
 · obtain ⟨g1, cur2, g2⟩ := hv.2 k e
   rw [g2] at hk
   simp only [Option.some.injEq, Obj.cells.injEq] at hk
   exact ht2 hk.2.1.symm
theorem new_cell (w : World) (q : Nat) (hq : w.heap.size = q) : ∃ w2, w.alloc (.cells #[.string ⟨#[]⟩, .int .i64 0, .string ⟨#[]⟩] 38) = w2 ∧ w2.heap[q]? = some (.cells #[.string ⟨#[]⟩, .int .i64 0, .string ⟨#[]⟩] 38 (0, 0)) ∧ Below w.heap.size w w2 ∧
 w2.cell? ⟨q, 0, none⟩ = some (.string ⟨#[]⟩) ∧ w2.cell? ⟨q, 1, none⟩ = some (.int .i64 0) ∧ w2.cell? ⟨q, 2, none⟩ = some (.string ⟨#[]⟩) ∧ w2.frozen? ⟨q, 0, none⟩ = false ∧ w2.frozen? ⟨q, 1, none⟩ = false ∧ w2.frozen? ⟨q, 2, none⟩ = false := by
 subst hq
 have h := heap_alloc_new w (.cells #[.string ⟨#[]⟩, .int .i64 0, .string ⟨#[]⟩] 38)
 have nb := (Below.refl w.heap.size w).alloc (Nat.le_refl _) (.cells #[.string ⟨#[]⟩, .int .i64 0, .string ⟨#[]⟩] 38)
 obtain ⟨w2, hw2⟩ : ∃ w2, w.alloc (.cells #[.string ⟨#[]⟩, .int .i64 0, .string ⟨#[]⟩] 38) = w2 := ⟨_, rfl⟩
 rw [hw2] at h nb
 refine ⟨w2, hw2, h, nb, ?_⟩
 obtain ⟨q, hq⟩ : ∃ q, w.heap.size = q := ⟨_, rfl⟩
 rw [hq] at h ⊢
 simp [World.cell?, World.frozen?, h]
theorem nextC_any (p base n₀ : Nat) (H H1 : List Rw) (pre : List Ce) (w : World) (h : ItAt p base n₀ H1 w) (hr : RunsTo H pre H1) :
 Calls Tryz.prog 100 #[.pointer (some ⟨p, 0, none⟩)] w fun e w' => RFr p w w' ∧ ∃ c ok, e = .returned (.tuple #[.agg #[.string ⟨c.k.toArray⟩, .int .i64 c.q, .string ⟨c.v.toArray⟩], .bool ok]) ∧ Pend p base n₀ H pre c ok w' := nextP_any p base n₀ H H1 pre w h hr
def EachItM (p base n₀ B B1 : Nat) (H : List Rw) (J : List Ce → World → Prop) (q : Nat) (ok : Bool) (m : Nat) (W : World) : Prop :=
 ∃ pre c, Pend p base n₀ H pre c ok W ∧ J pre W ∧ Boxed W B1 138 (.pointer (some ⟨p, 0, none⟩)) ∧ W.heap[q]? = some (.cells #[.string ⟨c.k.toArray⟩, .int .i64 c.q, .string ⟨c.v.toArray⟩] 38 (0, 0)) ∧ n₀ ≤ q ∧
  (∃ v, OutV B n₀ v W ∧ v.ownBlock ≠ some q) ∧ ((ok = false ∧ m = 0) ∨ (ok = true ∧ m + pre.length = Spoor.cnt H))
theorem Pend.rfr {p base n₀ q j : Nat} {H : List Rw} {pre : List Ce} {c : Ce} {ok : Bool} {W W' : World} (h : Pend p base n₀ H pre c ok W) (k : ∀ G, ItAt p base n₀ G W → ItAt p base n₀ G W') : Pend p base n₀ H pre c ok W' := by
 rcases h with ⟨h1, h2, h3⟩ | ⟨h1, H1, H2, h2, h3, h4⟩
 · exact .inl ⟨h1, h2, k _ h3⟩
 · exact .inr ⟨h1, H1, H2, h2, h3, k _ h4⟩
theorem Pend.m {p base n₀ : Nat} {H : List Rw} {pre : List Ce} {c : Ce} {ok : Bool} {W : World} (h : Pend p base n₀ H pre c ok W) : ∃ m, ((ok = false ∧ m = 0) ∨ (ok = true ∧ m + pre.length = Spoor.cnt H)) ∧ m ≤ Spoor.cnt H - pre.length := by
 rcases h with ⟨h1, h2, h3⟩ | ⟨h1, H1, H2, h2, h3, h4⟩
 · exact ⟨0, .inl ⟨h1, rfl⟩, Nat.zero_le _⟩
 · exact ⟨Spoor.cnt H - pre.length, .inr ⟨h1, by have := h2.cnt; omega⟩, Nat.le_refl _⟩
theorem each_step {p base n₀ B B1 q : Nat} {H : List Rw} {J : List Ce → World → Prop} {A w' : World} {pre : List Ce} {c : Ce} {ok : Bool} {x y z v : Value} (hJs : ∀ s A B, J s A → RFr p A B → J s B)
 (hJ : J pre A) (hb1 : Boxed A B1 138 (.pointer (some ⟨p, 0, none⟩))) (hv : OutV B n₀ v A) (hp : ∀ cur, A.heap[p]? ≠ some (.cells cur 38 (0, 0)))
 (f : RFr p A w') (hq : w'.heap[q]? = some (.cells #[x, y, z] 38 (0, 0))) (hqA : A.heap.size ≤ q) (hP : Pend p base n₀ H pre c ok w') (hBp : B ≠ p) (hB1 : B1 ≠ p) (hpA : p < A.heap.size) (hnA : n₀ ≤ A.heap.size) :
 RFr p A (((w'.setCell ⟨q, 0, none⟩ (.string ⟨c.k.toArray⟩)).setCell ⟨q, 1, none⟩ (.int .i64 c.q)).setCell ⟨q, 2, none⟩ (.string ⟨c.v.toArray⟩)) ∧
 ∃ m, EachItM p base n₀ B B1 H J q ok m (((w'.setCell ⟨q, 0, none⟩ (.string ⟨c.k.toArray⟩)).setCell ⟨q, 1, none⟩ (.int .i64 c.q)).setCell ⟨q, 2, none⟩ (.string ⟨c.v.toArray⟩)) ∧ m ≤ Spoor.cnt H - pre.length := by
 have f3 := ((f.set (j := 0) hqA (by omega) (.string ⟨c.k.toArray⟩)).set (j := 1) hqA (by omega) (.int .i64 c.q)).set (j := 2) hqA (by omega) (.string ⟨c.v.toArray⟩)
 obtain ⟨m, hm, hml⟩ := hP.m
 refine ⟨f3, m, ⟨pre, c, ?_, hJs _ _ _ hJ f3, f3.cells hb1 hB1 (by decide), set3 hq, by omega, ⟨v, hv.rfr f3 hBp hp, fun e => ?_⟩, hm⟩, hml⟩
 · refine hP.rfr (q := 0) (j := 0) fun G hG => ?_
   have h1 : (w'.setCell ⟨q, 0, none⟩ (.string ⟨c.k.toArray⟩)).heap[q]? = some (.cells #[.string ⟨c.k.toArray⟩, y, z] 38 (0, 0)) := by rw [heap_setCell_same w' q 0 _ _ _ hq]; rfl
   have h2 : ((w'.setCell ⟨q, 0, none⟩ (.string ⟨c.k.toArray⟩)).setCell ⟨q, 1, none⟩ (.int .i64 c.q)).heap[q]? = some (.cells #[.string ⟨c.k.toArray⟩, .int .i64 c.q, z] 38 (0, 0)) := by rw [heap_setCell_same _ q 1 _ _ _ h1]; rfl
   exact ((hG.rb (RBf.set hq (by decide) (by omega) _)).rb (RBf.set h1 (by decide) (by omega) _)).rb (RBf.set h2 (by decide) (by omega) _)
 · obtain ⟨-, cur, h2⟩ := hv.2 q e
   have := (Go.ltA h2)
   omega
set_option maxRecDepth 100000 in
set_option maxHeartbeats 8000000 in
theorem each_st (n : Nat) (hn : 1 ≤ n) (p base n₀ B B1 : Nat) (H : List Rw) (w : World) (hIt : ItAt p base n₀ H w) (hb1 : Boxed w B1 138 (.pointer (some ⟨p, 0, none⟩))) (hOut : ∃ v, OutV B n₀ v w) (hB1p : B1 ≠ p) (hBp : B ≠ p) :
 SeqSt Fence.wide n Tryz.prog 99 #[.pointer (some ⟨B1, 0, none⟩)] (fun c : Ce => #[ceVal c]) (RFr p) (RBo B n₀) (fun xs => RunsTo H xs []) (Spoor.cnt H) w := by
 intro l J W hW hJs hY h0
 obtain ⟨v, hv⟩ := hOut
 have hItW := hIt.rbo hv hW
 obtain ⟨vW, hvW, -, key⟩ := hW.2 v hv
 have hbW : Boxed W B1 138 (.pointer (some ⟨p, 0, none⟩)) := by
  obtain ⟨t1, t2⟩ := hv.apart hb1 (by decide) (by decide)
  exact key _ _ _ hb1 t1 t2
 have hpW : p < W.heap.size := by obtain ⟨vs, h1, -⟩ := hItW; have := h1.lt; have := h1.le; omega
 have hnW : n₀ ≤ W.heap.size := by obtain ⟨vs, -, -, -, -, -, h6, -⟩ := hItW; exact h6
 have CN := Lib.hid (nextC_any p base n₀ H H [] W hItW .start)
 have hc1 := hbW.cell
 have HW := Lib.hid (And.intro h0 (And.intro hbW (And.intro hvW (And.intro hItW.notCell hItW))))
 have HJS := Lib.hid hJs
 have HY := Lib.hid hY
 clear hIt hb1 hv hW key hItW hbW hJs hY h0 hvW
 refine callsIn_of_wp Tryz.func99 rfl trivial ?_ rfl
 simp only [Tryz.ntmps99, List.size_toArray, List.length_cons, List.length_nil, Nat.reduceAdd, Nat.reduceSub, Array.replicate_succ, Array.replicate_zero, List.push_toArray, List.append_toArray, List.nil_append, List.cons_append]
 gi_wp2_with (refine ⟨trivial, ?_⟩; gi_at_call 100; refine (callsIn_wide.2 CN.out).mono ?_; rintro e w1 ⟨f1, c, ok, rfl, hP⟩; obtain ⟨q, hqe⟩ : ∃ q, w1.heap.size = q := ⟨_, rfl⟩; obtain ⟨w2, hw2, hq, nb, x0, x1, x2, xf0, xf1, xf2⟩ := new_cell w1 q hqe)
 have f2 : RFr p W w2 := f1.trans (RFr.of nb (by have := f1.1.size; omega))
 have HS := Lib.hid (each_step HJS.out HW.out.1 HW.out.2.1 HW.out.2.2.1 HW.out.2.2.2.1 f2 hq (by have := f1.1.size; omega) (hP.rfr (q := 0) (j := 0) fun G hG => hG.rb (RBf.of nb (by have := f1.1.size; omega))) hBp hB1p hpW hnW)
 clear hP f1 f2 hq nb
 gi_loopw [3, 4] (fun pv bv wr => ∃ m q ok, pv = .pointer (some ⟨q, 0, none⟩) ∧ bv = .bool ok ∧ Hid (EachItM p base n₀ B B1 H J q ok m wr)) (fun pv bv wr => leastN fun m => ∃ q ok, pv = .pointer (some ⟨q, 0, none⟩) ∧ bv = .bool ok ∧ Hid (EachItM p base n₀ B B1 H J q ok m wr))
 case atStart =>
  obtain ⟨-, m, hm, -⟩ := HS.out
  exact ⟨m, q, ok, rfl, rfl, Lib.hid hm⟩
 case round =>
  have hsp := leastN_spec hrel
  generalize hm0 : leastN _ = m0 at hsp
  obtain ⟨q1, ok1, rfl, rfl, HE⟩ := hsp
  have HM := Lib.hid hm0
  obtain ⟨pre, c1, hP, hJ, hb1, hq, hnq, ⟨v1, hv1, hvq⟩, hmm⟩ := id HE.out
  clear hm0 hrel HS x0 x1 x2 xf0 xf1 xf2 hw2 hqe hc1
  cases ok1 with
  | false =>
    have HE0 := Lib.hid (show RunsTo H pre [] ∧ J pre wr from by
     rcases hP with ⟨-, h2, -⟩ | ⟨h, -⟩
     · exact ⟨h2, hJ⟩
     · cases h)
    clear hP hJ hb1 hq hv1 hvq hmm
    gi_wp2
    refine ⟨fun _ h => (by cases h), ?_⟩
    gi_wp2
    go_end0
    exact ⟨⟨_, rfl⟩, pre, HE0.out⟩
  | true =>
    obtain ⟨H1, H2, r1, r2, hit⟩ : ∃ H1 H2, RunsTo H pre H1 ∧ StepR H1 c1 H2 ∧ ItAt p base n₀ H2 wr := by
     rcases hP with ⟨h, -⟩ | ⟨-, h⟩
     · cases h
     · exact h
    have hlen : pre.length < Spoor.cnt H := by have := r1.cnt; have := r2.cnt; omega
    have hm1 : m0 = Spoor.cnt H - pre.length := by
     rcases hmm with ⟨h, -⟩ | ⟨-, h⟩
     · cases h
     · omega
    obtain ⟨fn, tmps, assign, body, hy, hR⟩ := HY.out pre c1 wr hJ hlen
    have y0 : wr.cell? ⟨q1, 0, none⟩ = some (.string ⟨c1.k.toArray⟩) := by simp [World.cell?, hq]
    have y1 : wr.cell? ⟨q1, 1, none⟩ = some (.int .i64 c1.q) := by simp [World.cell?, hq]
    have y2 : wr.cell? ⟨q1, 2, none⟩ = some (.string ⟨c1.v.toArray⟩) := by simp [World.cell?, hq]
    unfold ceVal at hy
    have HR := Lib.hid hR
    have HA := Lib.hid (And.intro hb1 (And.intro hq (And.intro hnq (And.intro hv1 (And.intro hvq (And.intro hit (And.intro r1 r2)))))))
    clear hP hJ hb1 hq hv1 hvq hmm hit r1 r2 hR
    gi_wp2
    refine HR.out.mono ?_
    rintro e W3 ⟨rfl, hJ3, hk3⟩
    obtain ⟨hb1, hq, hnq, hv1, hvq, hit, r1, r2⟩ := id HA.out
    obtain ⟨v3, hv3, hown3, key3⟩ := hk3.2 v1 hv1
    have hb3 : Boxed W3 B1 138 (.pointer (some ⟨p, 0, none⟩)) := by
     obtain ⟨t1, t2⟩ := hv1.apart hb1 (by decide) (by decide)
     exact key3 _ _ _ hb1 t1 t2
    have hqB : q1 ≠ B := fun e => by
     have hb := hv1.1
     unfold Boxed at hb
     rw [e, hb] at hq
     simp at hq
    have hq3 := key3 _ _ _ hq hqB hvq
    have hit3 := hit.rbo hv1 hk3
    have hp3 : p < W3.heap.size := by obtain ⟨vs, h1, -⟩ := hit3; have := h1.lt; have := h1.le; omega
    have hn3 : n₀ ≤ W3.heap.size := by obtain ⟨vs, -, -, -, -, -, h6, -⟩ := hit3; exact h6
    have z0 : W3.cell? ⟨q1, 0, none⟩ = some (.string ⟨c1.k.toArray⟩) := by simp [World.cell?, hq3]
    have z1 : W3.cell? ⟨q1, 1, none⟩ = some (.int .i64 c1.q) := by simp [World.cell?, hq3]
    have z2 : W3.cell? ⟨q1, 2, none⟩ = some (.string ⟨c1.v.toArray⟩) := by simp [World.cell?, hq3]
    obtain ⟨q2, hq2⟩ : ∃ q2, W3.heap.size = q2 := ⟨_, rfl⟩
    obtain ⟨wa, hwa, ha, nba, a0, a1, a2, af0, af1, af2⟩ := new_cell W3 q2 hq2
    have hb := set3 (a' := .string ⟨c1.k.toArray⟩) (b' := .int .i64 c1.q) (c' := .string ⟨c1.v.toArray⟩) ha
    have nbb : Below W3.heap.size W3 (((wa.setCell ⟨q2, 0, none⟩ (.string ⟨c1.k.toArray⟩)).setCell ⟨q2, 1, none⟩ (.int .i64 c1.q)).setCell ⟨q2, 2, none⟩ (.string ⟨c1.v.toArray⟩)) := below_set (below_set (below_set nba (by omega) 0 _) (by omega) 1 _) (by omega) 2 _
    obtain ⟨wb, hwb⟩ : ∃ wb, ((wa.setCell ⟨q2, 0, none⟩ (.string ⟨c1.k.toArray⟩)).setCell ⟨q2, 1, none⟩ (.int .i64 c1.q)).setCell ⟨q2, 2, none⟩ (.string ⟨c1.v.toArray⟩) = wb := ⟨_, rfl⟩
    rw [hwb] at hb nbb
    have k1 := ((nbb.block B1 hb3.lt).trans hb3 : wb.heap[B1]? = _)
    have kc : wb.cell? ⟨B1, 0, none⟩ = some (.pointer (some ⟨p, 0, none⟩)) := Boxed.cell k1
    have CN2 := Lib.hid (nextC_any p base n₀ H H2 (pre ++ [c1]) wb (hit3.rb (RBf.of nbb hn3)) (.one r1 r2))
    have HB := Lib.hid (And.intro hJ3 (And.intro hb3 (And.intro hv3 (And.intro hit3.notCell (And.intro nbb (And.intro hb hlen))))))
    clear hb1 hq hv1 hvq hit r1 r2 hk3 hv3 hown3 key3 hb3 hqB hq3 hit3 ha nba hb nbb k1 hJ3 hy y0 y1 y2 HE HA
    gi_wp2_with (refine ⟨trivial, ?_⟩; gi_at_call 100; refine (callsIn_wide.2 CN2.out).mono ?_; rintro e wc ⟨fc, c2, ok2, rfl, hP2⟩; have hqp : q2 ≠ p := (by omega); have hc := fc.cells HB.out.2.2.2.2.2.1 hqp (by decide); have c0' : wc.cell? ⟨q2, 0, none⟩ = some (.string ⟨c1.k.toArray⟩) := (by simp [World.cell?, hc]); have c1' : wc.cell? ⟨q2, 1, none⟩ = some (.int .i64 c1.q) := (by simp [World.cell?, hc]); have c2' : wc.cell? ⟨q2, 2, none⟩ = some (.string ⟨c1.v.toArray⟩) := (by simp [World.cell?, hc]); have cf0 : wc.frozen? ⟨q2, 0, none⟩ = false := (by simp [World.frozen?, hc]); have cf1 : wc.frozen? ⟨q2, 1, none⟩ = false := (by simp [World.frozen?, hc]); have cf2 : wc.frozen? ⟨q2, 2, none⟩ = false := (by simp [World.frozen?, hc]))
    have HS2 := Lib.hid (each_step HJS.out HB.out.1 HB.out.2.1 HB.out.2.2.1 HB.out.2.2.2.1 ((RFr.of HB.out.2.2.2.2.1 (by omega)).trans fc) hc (by omega) hP2 hBp hB1p hp3 hn3)
    go_roundw
    case rel =>
     obtain ⟨-, m, hm, -⟩ := HS2.out
     exact ⟨m, q2, ok2, rfl, rfl, Lib.hid hm⟩
    case measure =>
     obtain ⟨-, m, hm, hle⟩ := HS2.out
     rw [HM.out]
     refine Nat.lt_of_le_of_lt (leastN_le (m := m) ⟨q2, ok2, rfl, rfl, Lib.hid hm⟩) ?_
     have hl := HB.out.2.2.2.2.2.2
     rw [List.length_append, List.length_singleton] at hle
     omega
end Go.Proofs.YtoglloafpnopaaaGreat
