/- merges' All: the cells that the iterator tells, gathered. merges' All. merges' Newest. -/
import Derived.Test.YtoglloafpnopaaaGreatMA
import Derived.Test.YtoglloafpnopaaaGreatMgA
import Derived.Test.YtoglloafpnopaaaGreatMgE
import Derived.Maps.OwnIn
set_option linter.unusedSimpArgs false
set_option linter.unusedVariables false
namespace Go.Proofs.YtoglloafpnopaaaGreat
set_option maxRecDepth 16000
open Go.RowKit Spoor
attribute [local go_sem] Oper.semAt_some
def GatAt (p n₁ B : Nat) (w : World) (f : List Ce → List Ce) (pre : List Ce) (W : World) : Prop :=
 (∃ v, Boxed W B 22 v ∧ W.ownsRow n₁ 38 3 v (f pre).length (rowOf (f pre)) ∧ True) ∧ Below p w W
theorem GatAt.rfr {p n₁ B : Nat} {w A A' : World} {f : List Ce → List Ce} {s : List Ce} (h : GatAt p n₁ B w f s A) (fr : RFr p A A') (hB : B ≠ p) (hn : p < n₁) : GatAt p n₁ B w f s A' := by
 obtain ⟨⟨v, h1, h2, -⟩, h3⟩ := h
 refine ⟨⟨v, fr.cells h1 hB (by decide), ownRow_same h2 fun g hg => ?_, trivial⟩, h3.trans fr.1⟩
 rcases h2.2 with ⟨rfl, _⟩ | ⟨g2, cap, cur, rfl, hgn, hgb, _⟩
 · simp [Value.ownBlock] at hg
 · have e2 : g2 = g := by simpa [Value.ownBlock] using hg
   rw [← e2]
   exact (fr.cells hgb (by omega) (by decide)).trans hgb.symm
theorem GatAt.own {p n₁ B N : Nat} {w : World} {f : List Ce → List Ce} (hp : p ≤ w.heap.size) (hN : p ≤ N) : OwnFrom N (GatAt p n₁ B w f) :=
 OwnFrom.and ((holdsRow_own n₁ B 22 38 3 (fun s : List Ce => (f s).length) (fun s => rowOf (f s)) (fun _ _ => True)).from N) (ownFrom_below hp hN)
theorem RBo.appended {B n₀ n₁ m : Nat} {W w1 : World} {v v' : Value} {tmp : Obj} {ys : List Value} (hv : Boxed W B 22 v) (hn : n₀ ≤ n₁) (hgrow : (W.alloc tmp).grownBy w1 v.ownBlock) (hat : v'.ownBlock = v.ownBlock ∨ v'.ownBlock = some (W.alloc tmp).heap.size)
 (box' : Boxed (w1.setCell ⟨B, 0, none⟩ v') B 22 v') (own' : (w1.setCell ⟨B, 0, none⟩ v').ownsRow n₁ 38 3 v' m ys) : RBo B n₀ W (w1.setCell ⟨B, 0, none⟩ v') := by
 have hs : W.heap.size ≤ w1.heap.size := Nat.le_trans (by simp) hgrow.size
 refine ⟨by rw [World.size_setCell]; exact hs, fun u hu => ?_⟩
 obtain rfl : u = v := by
  have := (show W.heap[B]? = _ from hu.1).symm.trans hv
  simpa using this
 refine ⟨v', ⟨box', fun k hk => ?_⟩, fun k hk => ?_, fun k cur t hk hB hv => ?_⟩
 · rcases own'.2 with ⟨rfl, _⟩ | ⟨g, cap, cur, rfl, hgn, hgb, _⟩
   · simp [Value.ownBlock] at hk
   · have e2 : g = k := by simpa [Value.ownBlock] using hk
     rw [← e2]
     exact ⟨by omega, cur, hgb⟩
 · rcases hat with e | e
   · exact .inl (by rw [← e]; exact hk)
   · rw [e] at hk
     have := Option.some.inj hk
     rw [World.size_alloc] at this
     exact .inr (by omega)
 · have hl := (Go.ltA hk)
   exact (Below.heap_setCell w1 ⟨B, 0, none⟩ v' k hB).trans ((hgrow.block k (by rw [World.size_alloc]; omega) (Ne.symm hv)).trans ((Below.heap_alloc W tmp k hl).trans hk))
theorem ce_one (x : Ce) : ∀ u ∈ [Value.string ⟨x.k.toArray⟩, .int .i64 x.q, .string ⟨x.v.toArray⟩], u.oneCell' = true := fun u hu => by
 simp only [List.mem_cons, List.not_mem_nil, or_false] at hu
 rcases hu with rfl | rfl | rfl <;> rfl
theorem gat_appended {B n₀ k m : Nat} {W w1 : World} {v v' : Value} {tmp : Obj} {xs ys : List Value} (hv : Boxed W B 22 v) (hrow : W.ownsRow B 38 3 v k xs) (hn : n₀ ≤ B) (hB : B ≤ W.heap.size) (hown' : w1.ownsRow B 38 3 v' m ys) (hgrow : (W.alloc tmp).grownBy w1 v.ownBlock) (hat : v'.ownBlock = v.ownBlock ∨ v'.ownBlock = some (W.alloc tmp).heap.size) :
 w1.cell? ⟨B, 0, none⟩ = some v ∧ w1.frozen? ⟨B, 0, none⟩ = false ∧ Hid ((w1.setCell ⟨B, 0, none⟩ v').ownsRow B 38 3 v' m ys ∧ KeepsOthers W (w1.setCell ⟨B, 0, none⟩ v') ∧ Below B W (w1.setCell ⟨B, 0, none⟩ v') ∧ RBo B n₀ W (w1.setCell ⟨B, 0, none⟩ v') ∧ Boxed (w1.setCell ⟨B, 0, none⟩ v') B 22 v') := by
 obtain ⟨hbx, hbx2, hro2, hko, hbw⟩ := Boxed.appended hv (by decide) hrow hB (Nat.le_refl B) hown' hgrow
 exact ⟨hbx.cell, hbx.frozen, Lib.hid ⟨hro2, hko, hbw, RBo.appended hv hn hgrow hat hbx2 hro2, hbx2⟩⟩
def AxAt (q : Nat) (x : Ce) (W : World) : Prop := W.heap[q]? = some (.cells #[.string ⟨x.k.toArray⟩, .int .i64 x.q, .string ⟨x.v.toArray⟩] 38 (0, 0))
theorem AxAt.own (q N : Nat) (x : Ce) : OwnFrom N (fun (_ : Unit) W => AxAt q x W) := fun _ W W' row h hg hr => (hg.block q (Go.ltA h) fun e => by
 obtain ⟨_, o, ho, hc⟩ := hr q e.symm
 unfold AxAt at h
 rw [h] at ho; cases ho; cases hc).trans h
theorem rfr_kept {p N k : Nat} {A B : World} {o : Obj} (f : RFr p A B) (hp : p < N) (hk : N ≤ k) (h : A.heap[k]? = some o) (hc : o.isCells = false) : B.heap[k]? = some o :=
 (f.2 k (Go.ltA h) (by omega) fun cur e => by rw [h] at e; cases e; cases hc).trans h
end Go.Proofs.YtoglloafpnopaaaGreat
namespace Spoor
theorem cnt_plRows : ∀ (R : List (List Ce)) (i : Nat), cnt (plRows i R) = (R.map (·.length)).sum
 | [], _ => rfl
 | r :: R, i => by
   show cnt ((if r = [] then [] else [(r, i)]) ++ plRows (i + 1) R) = _
   rw [cnt_app, cnt_plRows R (i + 1), List.map_cons, List.sum_cons]
   congr 1
   by_cases h : r = []
   · rw [if_pos h, h]; rfl
   · rw [if_neg h]; simp [cnt]
end Spoor
namespace Go.Proofs.YtoglloafpnopaaaGreat
set_option maxRecDepth 16000
open Go.RowKit Spoor
theorem eachM_any (p : Nat) (w : World) : Calls Tryz.prog 79 #[.pointer (some ⟨p, 0, none⟩)] w fun e w' => e = .returned (.func (.func 99) #[] #[.pointer (some ⟨w.heap.size, 0, none⟩)]) ∧ w' = w.alloc (.cells #[.pointer (some ⟨p, 0, none⟩)] 138) := by
 go_enter Tryz.func79, Tryz.ntmps79
 go_wp2_with fail
 go_ret
 exact ⟨rfl, rfl⟩
def MayM (Rs : List (List Ce)) : Prop := Rs.length ≤ 1000 ∧ (∀ r ∈ Rs, r.length ≤ 100000 ∧ (∀ c ∈ r, FitsC c) ∧ sortedB r = true) ∧ (Rs.map (·.length)).sum ≤ 100000
theorem NewAt.start {w w1 : World} {Rs : List (List Ce)} (h : NewAt w w.heap.size Rs w1) (hm : MayM Rs) : ∃ H, ItAt w.heap.size (w.heap.size + 1) w1.heap.size H w1 ∧ Spoor.cnt H ≤ 100000 ∧ (∀ pre, RunsTo H pre [] → Merged Rs pre) := by
 obtain ⟨H, h1, h2⟩ := h.it (by have := hm.1; omega)
 refine ⟨H, h1, ?_, fun pre hp => merged_of (fun r hr => (sorted_rise.1 (hm.2.1 r hr).2.2).1) h2 hp⟩
 rw [cnt_perm h2, cnt_plRows]
 exact hm.2.2
attribute [local go_sem] Oper.semAt_some
theorem own_drew {W : World} {base n sz : Nat} {e : TypeId} {v : Value} {xs : List Value} (h : W.ownsRow base e sz v n xs) : W.drew.ownsRow base e sz v n xs := h
theorem boxed_drew {W : World} {B : Nat} {t : TypeId} {v : Value} (h : Boxed W B t v) : Boxed W.drew B t v := h
theorem RBo.refl (B n₀ : Nat) (W : World) : RBo B n₀ W W := RBo.of (Nat.le_refl _) fun _ _ _ h => h
theorem ce_new (W : World) (x : Ce) : ∀ (j : Nat) (u : Value), [Value.string ⟨x.k.toArray⟩, .int .i64 x.q, .string ⟨x.v.toArray⟩][j]? = some u → (W.alloc (.cells #[.string ⟨x.k.toArray⟩, .int .i64 x.q, .string ⟨x.v.toArray⟩] 38)).cell? ((⟨W.heap.size, 0, none⟩ : Addr).add j) = some u := fun j u hj => by
 have hb := heap_alloc_new W (.cells #[.string ⟨x.k.toArray⟩, .int .i64 x.q, .string ⟨x.v.toArray⟩] 38)
 generalize W.alloc (.cells #[.string ⟨x.k.toArray⟩, .int .i64 x.q, .string ⟨x.v.toArray⟩] 38) = w3 at hb ⊢
 match j, hj with
 | 0, hj => simp at hj; subst hj; simp [World.cell?, hb, Addr.add]
 | 1, hj => simp at hj; subst hj; simp [World.cell?, hb, Addr.add]
 | 2, hj => simp at hj; subst hj; simp [World.cell?, hb, Addr.add]
 | j + 3, hj => simp at hj
set_option maxRecDepth 100000 in
set_option maxHeartbeats 8000000 in
theorem newestM_any (s : Value) (Rs : List (List Ce)) (w : World) (hR : RowsIn s Rs w) (hm : MayM Rs) :
 Calls Tryz.prog 51 #[s] w fun e w' => ∃ v pre, e = .returned (.tuple #[v, .int .i64 0]) ∧ Merged Rs pre ∧ w'.ownsRow w.heap.size 38 3 v (dd keyC pre).length (rowOf (dd keyC pre)) ∧ Below w.heap.size w w' := by
 obtain ⟨i0, hi, hz0, hz1, hz2⟩ := info_one info_ce
 have CN := Lib.hid (newIt_any s Rs w hR hm.1 hm.2.1)
 obtain ⟨A, cap, rfl, -⟩ := hR
 obtain ⟨n, hn⟩ : ∃ n, Rs.length = n := ⟨_, rfl⟩
 rw [hn] at CN ⊢
 refine (callsIn_wide (n := 5)).1 ?_
 refine callsIn_of_wp_marks Tryz.func51 rfl trivial ?_ rfl
 simp only [Tryz.ntmps51, List.size_toArray, List.length_cons, List.length_nil, Nat.reduceAdd, Nat.reduceSub, Array.replicate_succ, Array.replicate_zero, List.push_toArray, List.append_toArray, List.nil_append, List.cons_append]
 gi_wp2_with (refine ⟨trivial, ?_⟩; gi_at_call 78; refine (callsIn_wide.2 CN.out).mono ?_; rintro e w1 ⟨rfl, hN⟩)
 obtain ⟨H, hIt, hcn, hmg⟩ := hN.start hm
 have hb1 : Below w.heap.size w w1 := by obtain ⟨_, _, -, -, -, -, h⟩ := hN; exact h
 obtain ⟨p, hp⟩ : ∃ p, w.heap.size = p := ⟨_, rfl⟩
 rw [hp] at hIt hb1 ⊢
 have hpl : p < w1.heap.size := by obtain ⟨vs, -, -, -, -, h, -⟩ := hIt; omega
 refine ⟨trivial, (callsIn_wide.2 (eachM_any p _)).mono ?_⟩
 rintro e w2 ⟨rfl, rfl⟩
 gi_wp2
 have bB := (Boxed.new w1 22 (.slice none 0 0)).alloc (.cells #[.pointer (some ⟨p, 0, none⟩)] 138)
 have b1 := Boxed.new (w1.alloc (.cells #[.slice none 0 0] 22)) 138 (.pointer (some ⟨p, 0, none⟩))
 have nb := ((Below.refl w1.heap.size w1).alloc (Nat.le_refl _) (.cells #[.slice none 0 0] 22)).alloc (by simp) (.cells #[.pointer (some ⟨p, 0, none⟩)] 138)
 have hsz : ((w1.alloc (.cells #[.slice none 0 0] 22)).alloc (.cells #[.pointer (some ⟨p, 0, none⟩)] 138)).heap.size = w1.heap.size + 2 := by simp
 rw [World.size_alloc] at b1
 obtain ⟨B, hB⟩ : ∃ B, w1.heap.size = B := ⟨_, rfl⟩
 obtain ⟨W0, hW0⟩ : ∃ W0, (w1.alloc (.cells #[.slice none 0 0] 22)).alloc (.cells #[.pointer (some ⟨p, 0, none⟩)] 138) = W0 := ⟨_, rfl⟩
 rw [hW0] at bB b1 nb hsz ⊢
 rw [hB] at bB b1 hsz hpl hIt ⊢
 have hIt0 := hIt.rb (RBf.of nb (by omega))
 have hI0 : GatAt p B B w (dd keyC) [] W0 := ⟨⟨_, bB, World.ownsRow_nil _ _ _ _, trivial⟩, hb1.trans (nb.mono (by omega))⟩
 have hIs : ∀ (s : List Ce) (A B' : World), GatAt p B B w (dd keyC) s A → RFr p A B' → GatAt p B B w (dd keyC) s B' := fun s A B' h f => h.rfr f (by omega) (by omega)
 have HMG := Lib.hid hmg
 clear hW0 nb hb1 hN hmg hIt
 refine wpIn_rangeSt rfl (by omega) (gf := 99) (lb := #[.pointer (some ⟨B + 1, 0, none⟩)]) rfl trivial (enters_of Tryz.func99 (by kernel_rfl) rfl)
  (each_st 4 (by omega) p (p + 1) B B (B + 1) H W0 hIt0 b1 ⟨_, bB, fun k hk => by simp [Value.ownBlock] at hk⟩ (by omega) (by omega)) (fun _ => rfl)
  (fun A B' k o f hk h hc => rfr_kept f (by omega : p < W0.heap.size) hk h hc) RBo.trans (fun o => RBo.below ((Below.refl _ _).alloc (Nat.le_refl _) o)) (fun o o' => RBo.below (((Below.refl _ _).alloc (Nat.le_refl _) o).alloc (by simp) o')) (fun W l o o' h hc _ => RBo.put o' h hc)
  (GatAt p B B w (dd keyC)) (GatAt.own (by omega) (by omega)) hIs hI0
  (fun x a' W => ∃ q, B < q ∧ a' = { tmps := #[.slice A n cap, undef, .slice none 0 0, .int .i64 0, .pointer (some ⟨p, 0, none⟩), .int .i64 0, .pointer (some ⟨B, 0, none⟩), .pointer (some ⟨q, 0, none⟩), undef, .tuple #[.pointer (some ⟨p, 0, none⟩), .int .i64 0], .slice A n cap, .tuple #[.pointer (some ⟨p, 0, none⟩), .int .i64 0], .pointer (some ⟨p, 0, none⟩), .int .i64 0, .int .i64 0, .bool false, undef, .pointer (some ⟨p, 0, none⟩), .func (.func 99) #[] #[.pointer (some ⟨B + 1, 0, none⟩)], ceVal x, undef, undef, undef, undef, undef, undef, undef, undef, undef, undef, undef, undef, undef, undef, undef, undef, undef, undef, undef, undef], defers := [] } ∧ AxAt q x W) ?hAx ?assign ?body ?done
 case hAx =>
  rintro x a' s W W' row ⟨q, h1, h2, h3⟩ hg hr
  exact ⟨q, h1, h2, AxAt.own q _ x () W W' row h3 hg hr⟩
 case assign =>
  intro l pre x W K hI hK
  obtain ⟨q, hq⟩ : ∃ q, W.heap.size = q := ⟨_, rfl⟩
  obtain ⟨w2, hw2, hq2, nb2, x0, x1, x2, xf0, xf1, xf2⟩ := new_cell W q hq
  have hs3 := set3 (a' := .string ⟨x.k.toArray⟩) (b' := .int .i64 x.q) (c' := .string ⟨x.v.toArray⟩) hq2
  have nb3 : Below W.heap.size W (((w2.setCell ⟨q, 0, none⟩ (.string ⟨x.k.toArray⟩)).setCell ⟨q, 1, none⟩ (.int .i64 x.q)).setCell ⟨q, 2, none⟩ (.string ⟨x.v.toArray⟩)) := below_set (below_set (below_set nb2 (by omega) 0 _) (by omega) 1 _) (by omega) 2 _
  have hBl : B < W.heap.size := by obtain ⟨⟨v, h1, -⟩, -⟩ := hI; exact h1.lt
  have HE := Lib.hid (hK _ _ ⟨nb3.size, fun k o _ hk _ => (nb3.block k (Go.ltA hk)).trans hk⟩ (RBo.below nb3) (hIs _ _ _ hI (RFr.of nb3 (by omega))) ⟨q, by omega, rfl, hs3⟩)
  clear hK hI hs3 nb3 nb2 hq2 hIs hI0 hIt0 b1 bB
  unfold ceVal
  gi_wp2
  exact HE.out
 case body =>
  rintro l pre x a' W ⟨⟨v, hv, hrow, -⟩, hbl⟩ ⟨q, hqB, rfl, hax⟩ hlt
  unfold AxAt at hax
  have y0 : W.cell? ⟨q, 0, none⟩ = some (.string ⟨x.k.toArray⟩) := by simp [World.cell?, hax]
  have y1 : W.cell? ⟨q, 1, none⟩ = some (.int .i64 x.q) := by simp [World.cell?, hax]
  have y2 : W.cell? ⟨q, 2, none⟩ = some (.string ⟨x.v.toArray⟩) := by simp [World.cell?, hax]
  have hcv := hv.cell
  have hBW := hv.lt
  have HID := Lib.hid (And.intro hbl hIs)
  have HX := Lib.hid (ce_new W.drew x)
  have hpb : (dd keyC pre).length ≤ pre.length := dd_length _ _ _
  rcases dd_key_step pre x with ⟨h0, h1, h2⟩ | ⟨o, d, h1, h2⟩
  · obtain ⟨A2, c2, rfl⟩ := own_slice hrow
    rw [h1] at hrow hcv hv
    rw [List.length_nil] at hcv hrow hv
    have HR := Lib.hid (And.intro hv hrow)
    clear hbl hIs hI0 hIt0 b1 bB hax hv hrow
    gi_wp2
    refine wpIn_region_lit_late (fun W' => W'.cell? ⟨B, 0, none⟩ = some (.slice A2 0 c2) ∧ W'.cell? ⟨q, 0, none⟩ = some (.string ⟨x.k.toArray⟩) ∧ True) (fun _ => false) (k := 12) (listed := #[false, false, false, false, false, false, false, false, false, false, false, false]) (by kernel_rfl) (by kernel_rfl) (by kernel_rfl) ?_
    have hS : W.drew.cell? ⟨B, 0, none⟩ = some (.slice A2 0 c2) ∧ W.drew.cell? ⟨q, 0, none⟩ = some (.string ⟨x.k.toArray⟩) ∧ True := ⟨hcv, y0, trivial⟩
    refine AnyS.yes 0 23 ?_ rfl rfl (by kernel_rfl) (fun _ _ _ _ _ => id) hS (fun _ => rfl) ?_ ?_
    rotate_left
    · intro w' hw'
      obtain ⟨hw1, hw2, hw3⟩ := hw'
      go_simp
      with_reducible rfl
    simp only [zP,zN,zS,zC,zZ]
    refine AnyS.yes 1 24 ?_ rfl rfl (by kernel_rfl) (fun _ _ _ _ _ => id) hS (fun _ => rfl) ?_ ?_
    rotate_left
    · intro w' hw'
      obtain ⟨hw1, hw2, hw3⟩ := hw'
      go_simp
      with_reducible rfl
    simp only [zP,zN,zS,zC,zZ]
    refine AnyS.yes 2 25 ?_ rfl rfl (by kernel_rfl) (fun _ _ _ _ _ => id) hS (fun _ => rfl) ?_ ?_
    rotate_left
    · intro w' hw'
      obtain ⟨hw1, hw2, hw3⟩ := hw'
      go_simp
      with_reducible rfl
    simp only [zP,zN,zS,zC,zZ]
    refine AnyS.no 3 26 rfl rfl (by kernel_rfl) (fun _ _ _ _ _ => id) hS (fun _ => rfl) ?_; simp only [zP,zS,zC,zZ]
    refine AnyS.no 4 27 rfl rfl (by kernel_rfl) (fun _ _ _ _ _ => id) hS (fun _ => rfl) ?_; simp only [zP,zS,zC,zZ]
    refine AnyS.no 5 28 rfl rfl (by kernel_rfl) (fun _ _ _ _ _ => id) hS (fun _ => rfl) ?_; simp only [zP,zS,zC,zZ]
    refine AnyS.no 6 29 rfl rfl (by kernel_rfl) (fun _ _ _ _ _ => id) hS (fun _ => rfl) ?_; simp only [zP,zS,zC,zZ]
    refine AnyS.no 7 30 rfl rfl (by kernel_rfl) (fun _ _ _ _ _ => id) hS (fun _ => rfl) ?_; simp only [zP,zS,zC,zZ]
    refine AnyS.no 8 31 rfl rfl (by kernel_rfl) (fun _ _ _ _ _ => id) hS (fun _ => rfl) ?_; simp only [zP,zS,zC,zZ]
    refine AnyS.no 9 32 rfl rfl (by kernel_rfl) (fun _ _ _ _ _ => id) hS (fun _ => rfl) ?_; simp only [zP,zS,zC,zZ]
    refine AnyS.no 10 33 rfl rfl (by kernel_rfl) (fun _ _ _ _ _ => id) hS (fun _ => rfl) ?_; simp only [zP,zS,zC,zZ]
    refine AnyS.yes 11 34 ?_ rfl rfl (by kernel_rfl) (fun _ _ _ _ _ => id) hS (fun _ => rfl) ?_ ?_
    rotate_left
    · intro w' hw'
      obtain ⟨hw1, hw2, hw3⟩ := hw'
      go_simp
      with_reducible rfl
    simp only [zP,zN,zS,zC,zZ]
    clear hS
    refine AnyS.done (by kernel_rfl) ?_ _
    gi_wp2_with (first
     | (gi_at_builtin
        refine wpListIn_append_own_at _ rfl _ _ 22 rfl B 38 i0 _ 3 40 Tryz.underlying22 hi hz0 hz1 hz2 rfl (by decide) _ _ _ rfl (own_drew HR.out.2 |>.alloc _) ⟨W.drew.heap.size, 0, none⟩ 1 1 [.string ⟨x.k.toArray⟩, .int .i64 x.q, .string ⟨x.v.toArray⟩] rfl rfl HX.out (ce_one x) ?a1 ?a2 ?a3 ?_
        case a1 => unfold maxLen; omega
        case a2 => omega
        case a3 => show B ≤ (W.alloc (.cells #[.string ⟨x.k.toArray⟩, .int .i64 x.q, .string ⟨x.v.toArray⟩] 38)).heap.size; rw [World.size_alloc]; omega
        intro v' w1 hown' hgrow hnil hat
        replace hgrow : (W.drew.alloc (.cells #[.string ⟨x.k.toArray⟩, .int .i64 x.q, .string ⟨x.v.toArray⟩] 38)).grownBy w1 (Value.slice A2 0 c2).ownBlock := hgrow
        obtain ⟨hbc, hbf, HZ⟩ := gat_appended (boxed_drew HR.out.1) (own_drew HR.out.2) (show B ≤ B by omega) (show B ≤ W.heap.size by omega) hown' hgrow hat
        clear hnil hat hgrow
        obtain ⟨g', cap', rfl⟩ := ownsRow_succ hown'
        clear hown')
     | gi_in)
    obtain ⟨z1, z2, z3, z4, z5⟩ := HZ.out
    refine ⟨⟨z2.size, fun k o _ h1 h2 => z2.same k o h1 h2⟩, z4, ⟨⟨_, z5, ?_, trivial⟩, (Below.drew HID.out.1).trans (z3.mono (by omega))⟩⟩
    rw [h2]
    exact z1
  · obtain ⟨m, hm⟩ : ∃ m, o.length = m := ⟨_, rfl⟩
    have hm2 : (dd keyC pre).length = m + 1 := by rw [h1, List.length_append, hm]; rfl
    have hmp : m + 1 ≤ pre.length := by rw [← hm2]; exact hpb
    rw [hm2] at hrow
    obtain ⟨g, c2, rfl⟩ := ownsRow_succ hrow
    have hcd : W.cell? ⟨g, m * 3, none⟩ = some (.string ⟨d.k.toArray⟩) := by
     rw [hrow.cellAt (m * 3) (by omega), h1, show m * 3 = m * 3 + 0 from rfl, rowOf_at _ m 0 (by simp; omega) (by omega)]
     rw [show (o ++ [d]).getD m Ce.zero = d by rw [← hm]; simp [List.getD]]
     rfl
    have HR := Lib.hid (And.intro hv hrow)
    have hcc : m + 1 ≤ c2 := by
     rcases hrow.2 with ⟨e, -⟩ | ⟨g2, c3, cur, e, -, -, h, -⟩
     · cases e
     · cases e; exact h
    have hwn : IntKind.i64.wrap ((m : Int) + 1 - 1) = (m : Int) := by rw [IntKind.wrap_i64]; omega
    have hmi : (m : Int) < (m : Int) + 1 := by omega
    have hm0 : ¬ (m : Int) < 0 := by omega
    have hm00 : (0 : Int) ≤ (m : Int) := by omega
    clear hbl hIs hI0 hIt0 b1 bB hax hv hrow
    by_cases hk : d.k = x.k
    · have hkb : (d.k == x.k) = true := by rw [hk]; simp
      gi_wp2
      refine wpIn_region_lit_late (fun W' => W'.cell? ⟨B, 0, none⟩ = some (.slice (some ⟨g, 0, none⟩) (m + 1) c2) ∧ W'.cell? ⟨q, 0, none⟩ = some (.string ⟨x.k.toArray⟩) ∧ W'.cell? ⟨g, m * 3, none⟩ = some (.string ⟨d.k.toArray⟩)) (fun _ => false) (k := 12) (listed := #[false, false, false, false, false, false, false, false, false, false, false, false]) (by kernel_rfl) (by kernel_rfl) (by kernel_rfl) ?_
      have hS : W.drew.cell? ⟨B, 0, none⟩ = some (.slice (some ⟨g, 0, none⟩) (m + 1) c2) ∧ W.drew.cell? ⟨q, 0, none⟩ = some (.string ⟨x.k.toArray⟩) ∧ W.drew.cell? ⟨g, m * 3, none⟩ = some (.string ⟨d.k.toArray⟩) := ⟨hcv, y0, hcd⟩
      refine AnyS.yes 0 23 ?_ rfl rfl (by kernel_rfl) (fun _ _ _ _ _ => id) hS (fun _ => rfl) ?_ ?_
      rotate_left
      · intro w' hw'
        obtain ⟨hw1, hw2, hw3⟩ := hw'
        go_simp
        with_reducible rfl
      simp only [zP,zN,zS,zC,zZ]
      refine AnyS.yes 1 24 ?_ rfl rfl (by kernel_rfl) (fun _ _ _ _ _ => id) hS (fun _ => rfl) ?_ ?_
      rotate_left
      · intro w' hw'
        obtain ⟨hw1, hw2, hw3⟩ := hw'
        go_simp
        with_reducible rfl
      simp only [zP,zN,zS,zC,zZ]
      refine AnyS.yes 2 25 ?_ rfl rfl (by kernel_rfl) (fun _ _ _ _ _ => id) hS (fun _ => rfl) ?_ ?_
      rotate_left
      · intro w' hw'
        obtain ⟨hw1, hw2, hw3⟩ := hw'
        go_simp
        with_reducible rfl
      simp only [zP,zN,zS,zC,zZ]
      refine AnyS.yes 3 26 ?_ rfl rfl (by kernel_rfl) (fun _ _ _ _ _ => id) hS (fun _ => rfl) ?_ ?_
      rotate_left
      · intro w' hw'
        obtain ⟨hw1, hw2, hw3⟩ := hw'
        go_simp
        with_reducible rfl
      simp only [zP,zN,zS,zC,zZ]
      refine AnyS.yes 4 27 ?_ rfl rfl (by kernel_rfl) (fun _ _ _ _ _ => id) hS (fun _ => rfl) ?_ ?_
      rotate_left
      · intro w' hw'
        obtain ⟨hw1, hw2, hw3⟩ := hw'
        go_simp
        with_reducible rfl
      simp only [zP,zN,zS,zC,zZ]
      refine AnyS.yes 5 28 ?_ rfl rfl (by kernel_rfl) (fun _ _ _ _ _ => id) hS (fun _ => rfl) ?_ ?_
      rotate_left
      · intro w' hw'
        obtain ⟨hw1, hw2, hw3⟩ := hw'
        go_simp
        with_reducible rfl
      simp only [zP,zN,zS,zC,zZ]
      refine AnyS.yes 6 29 ?_ rfl rfl (by kernel_rfl) (fun _ _ _ _ _ => id) hS (fun _ => rfl) ?_ ?_
      rotate_left
      · intro w' hw'
        obtain ⟨hw1, hw2, hw3⟩ := hw'
        go_simp
        with_reducible rfl
      simp only [zP,zN,zS,zC,zZ]
      refine AnyS.yes 7 30 ?_ rfl rfl (by kernel_rfl) (fun _ _ _ _ _ => id) hS (fun _ => rfl) ?_ ?_
      rotate_left
      · intro w' hw'
        obtain ⟨hw1, hw2, hw3⟩ := hw'
        go_simp
        with_reducible rfl
      simp only [zP,zN,zS,zC,zZ]
      refine AnyS.yes 8 31 ?_ rfl rfl (by kernel_rfl) (fun _ _ _ _ _ => id) hS (fun _ => rfl) ?_ ?_
      rotate_left
      · intro w' hw'
        obtain ⟨hw1, hw2, hw3⟩ := hw'
        go_simp
        with_reducible rfl
      simp only [zP,zN,zS,zC,zZ]
      refine AnyS.yes 9 32 ?_ rfl rfl (by kernel_rfl) (fun _ _ _ _ _ => id) hS (fun _ => rfl) ?_ ?_
      rotate_left
      · intro w' hw'
        obtain ⟨hw1, hw2, hw3⟩ := hw'
        go_simp
        with_reducible rfl
      simp only [zP,zN,zS,zC,zZ]
      refine AnyS.yes 10 33 ?_ rfl rfl (by kernel_rfl) (fun _ _ _ _ _ => id) hS (fun _ => rfl) ?_ ?_
      rotate_left
      · intro w' hw'
        obtain ⟨hw1, hw2, hw3⟩ := hw'
        go_simp
        with_reducible rfl
      simp only [zP,zN,zS,zC,zZ]
      refine AnyS.yes 11 34 ?_ rfl rfl (by kernel_rfl) (fun _ _ _ _ _ => id) hS (fun _ => rfl) ?_ ?_
      rotate_left
      · intro w' hw'
        obtain ⟨hw1, hw2, hw3⟩ := hw'
        go_simp
        with_reducible rfl
      simp only [zP,zN,zS,zC,zZ]
      clear hS
      refine AnyS.done (by kernel_rfl) ?_ _
      gi_wp2
      refine ⟨⟨Nat.le_refl _, fun _ _ _ h _ => h⟩, RBo.refl _ _ W, ⟨_, boxed_drew HR.out.1, ?_, trivial⟩, Below.drew HID.out.1⟩
      rw [h2, if_pos hk, ← h1, hm2]
      exact own_drew HR.out.2
    · have hkb : (d.k == x.k) = false := by simp [hk]
      gi_wp2
      refine wpIn_region_lit_late (fun W' => W'.cell? ⟨B, 0, none⟩ = some (.slice (some ⟨g, 0, none⟩) (m + 1) c2) ∧ W'.cell? ⟨q, 0, none⟩ = some (.string ⟨x.k.toArray⟩) ∧ W'.cell? ⟨g, m * 3, none⟩ = some (.string ⟨d.k.toArray⟩)) (fun _ => false) (k := 12) (listed := #[false, false, false, false, false, false, false, false, false, false, false, false]) (by kernel_rfl) (by kernel_rfl) (by kernel_rfl) ?_
      have hS : W.drew.cell? ⟨B, 0, none⟩ = some (.slice (some ⟨g, 0, none⟩) (m + 1) c2) ∧ W.drew.cell? ⟨q, 0, none⟩ = some (.string ⟨x.k.toArray⟩) ∧ W.drew.cell? ⟨g, m * 3, none⟩ = some (.string ⟨d.k.toArray⟩) := ⟨hcv, y0, hcd⟩
      refine AnyS.yes 0 23 ?_ rfl rfl (by kernel_rfl) (fun _ _ _ _ _ => id) hS (fun _ => rfl) ?_ ?_
      rotate_left
      · intro w' hw'
        obtain ⟨hw1, hw2, hw3⟩ := hw'
        go_simp
        with_reducible rfl
      simp only [zP,zN,zS,zC,zZ]
      refine AnyS.yes 1 24 ?_ rfl rfl (by kernel_rfl) (fun _ _ _ _ _ => id) hS (fun _ => rfl) ?_ ?_
      rotate_left
      · intro w' hw'
        obtain ⟨hw1, hw2, hw3⟩ := hw'
        go_simp
        with_reducible rfl
      simp only [zP,zN,zS,zC,zZ]
      refine AnyS.yes 2 25 ?_ rfl rfl (by kernel_rfl) (fun _ _ _ _ _ => id) hS (fun _ => rfl) ?_ ?_
      rotate_left
      · intro w' hw'
        obtain ⟨hw1, hw2, hw3⟩ := hw'
        go_simp
        with_reducible rfl
      simp only [zP,zN,zS,zC,zZ]
      refine AnyS.yes 3 26 ?_ rfl rfl (by kernel_rfl) (fun _ _ _ _ _ => id) hS (fun _ => rfl) ?_ ?_
      rotate_left
      · intro w' hw'
        obtain ⟨hw1, hw2, hw3⟩ := hw'
        go_simp
        with_reducible rfl
      simp only [zP,zN,zS,zC,zZ]
      refine AnyS.yes 4 27 ?_ rfl rfl (by kernel_rfl) (fun _ _ _ _ _ => id) hS (fun _ => rfl) ?_ ?_
      rotate_left
      · intro w' hw'
        obtain ⟨hw1, hw2, hw3⟩ := hw'
        go_simp
        with_reducible rfl
      simp only [zP,zN,zS,zC,zZ]
      refine AnyS.yes 5 28 ?_ rfl rfl (by kernel_rfl) (fun _ _ _ _ _ => id) hS (fun _ => rfl) ?_ ?_
      rotate_left
      · intro w' hw'
        obtain ⟨hw1, hw2, hw3⟩ := hw'
        go_simp
        with_reducible rfl
      simp only [zP,zN,zS,zC,zZ]
      refine AnyS.yes 6 29 ?_ rfl rfl (by kernel_rfl) (fun _ _ _ _ _ => id) hS (fun _ => rfl) ?_ ?_
      rotate_left
      · intro w' hw'
        obtain ⟨hw1, hw2, hw3⟩ := hw'
        go_simp
        with_reducible rfl
      simp only [zP,zN,zS,zC,zZ]
      refine AnyS.yes 7 30 ?_ rfl rfl (by kernel_rfl) (fun _ _ _ _ _ => id) hS (fun _ => rfl) ?_ ?_
      rotate_left
      · intro w' hw'
        obtain ⟨hw1, hw2, hw3⟩ := hw'
        go_simp
        with_reducible rfl
      simp only [zP,zN,zS,zC,zZ]
      refine AnyS.yes 8 31 ?_ rfl rfl (by kernel_rfl) (fun _ _ _ _ _ => id) hS (fun _ => rfl) ?_ ?_
      rotate_left
      · intro w' hw'
        obtain ⟨hw1, hw2, hw3⟩ := hw'
        go_simp
        with_reducible rfl
      simp only [zP,zN,zS,zC,zZ]
      refine AnyS.yes 9 32 ?_ rfl rfl (by kernel_rfl) (fun _ _ _ _ _ => id) hS (fun _ => rfl) ?_ ?_
      rotate_left
      · intro w' hw'
        obtain ⟨hw1, hw2, hw3⟩ := hw'
        go_simp
        with_reducible rfl
      simp only [zP,zN,zS,zC,zZ]
      refine AnyS.yes 10 33 ?_ rfl rfl (by kernel_rfl) (fun _ _ _ _ _ => id) hS (fun _ => rfl) ?_ ?_
      rotate_left
      · intro w' hw'
        obtain ⟨hw1, hw2, hw3⟩ := hw'
        go_simp
        with_reducible rfl
      simp only [zP,zN,zS,zC,zZ]
      refine AnyS.yes 11 34 ?_ rfl rfl (by kernel_rfl) (fun _ _ _ _ _ => id) hS (fun _ => rfl) ?_ ?_
      rotate_left
      · intro w' hw'
        obtain ⟨hw1, hw2, hw3⟩ := hw'
        go_simp
        with_reducible rfl
      simp only [zP,zN,zS,zC,zZ]
      clear hS
      refine AnyS.done (by kernel_rfl) ?_ _
      gi_wp2_with (first
       | (gi_at_builtin
          refine wpListIn_append_own_at _ rfl _ _ 22 rfl B 38 i0 _ 3 40 Tryz.underlying22 hi hz0 hz1 hz2 rfl (by decide) _ _ _ rfl (own_drew HR.out.2 |>.alloc _) ⟨W.drew.heap.size, 0, none⟩ 1 1 [.string ⟨x.k.toArray⟩, .int .i64 x.q, .string ⟨x.v.toArray⟩] rfl rfl HX.out (ce_one x) ?a1 ?a2 ?a3 ?_
          case a1 => unfold maxLen; omega
          case a2 => omega
          case a3 => show B ≤ (W.alloc (.cells #[.string ⟨x.k.toArray⟩, .int .i64 x.q, .string ⟨x.v.toArray⟩] 38)).heap.size; rw [World.size_alloc]; omega
          intro v' w1 hown' hgrow hnil hat
          replace hgrow : (W.drew.alloc (.cells #[.string ⟨x.k.toArray⟩, .int .i64 x.q, .string ⟨x.v.toArray⟩] 38)).grownBy w1 (Value.slice (some ⟨g, 0, none⟩) (m + 1) c2).ownBlock := hgrow
          obtain ⟨hbc, hbf, HZ⟩ := gat_appended (boxed_drew HR.out.1) (own_drew HR.out.2) (show B ≤ B by omega) (show B ≤ W.heap.size by omega) hown' hgrow hat
          clear hnil hat hgrow
          obtain ⟨g', cap', rfl⟩ := ownsRow_succ hown'
          clear hown')
       | gi_in)
      obtain ⟨z1, z2, z3, z4, z5⟩ := HZ.out
      refine ⟨⟨z2.size, fun k o _ h1 h2 => z2.same k o h1 h2⟩, z4, ⟨⟨_, z5, ?_, trivial⟩, (Below.drew HID.out.1).trans (z3.mono (by omega))⟩⟩
      rw [h2, if_neg hk, ← h1, rowOf_snoc, List.length_append, hm2]
      exact z1
 case done =>
  rintro D ys W hD hS ⟨⟨v, hv, hrow, -⟩, hBl⟩ hK
  have hcv := hv.cell
  have HE := Lib.hid (And.intro hrow (And.intro hBl (And.intro hS hK)))
  have hD2 : W0.heap.size ≤ D := hD
  obtain ⟨A2, cap2, rfl⟩ := own_slice hrow
  clear hIt0 b1 bB hI0 hIs hrow hBl hS hv
  gi_wp2
  refine ⟨by simp, .inl ⟨_, _, rfl, run_takeDeferred HE.out.2.2.2, ?_⟩⟩
  refine ⟨_, results_tmp2 rfl _ _ _, _, ys, rfl, HMG.out _ HE.out.2.2.1, ?_, ?_⟩
  · rw [hp]
    exact ownsRow_putObj (HE.out.1.mono (by omega)) _ HE.out.2.2.2 rfl
  · rw [hp]
    exact HE.out.2.1.trans (belowK_b (w := W0) (by omega) W D _ _ hD2 HE.out.2.2.2 rfl rfl)
end Go.Proofs.YtoglloafpnopaaaGreat
