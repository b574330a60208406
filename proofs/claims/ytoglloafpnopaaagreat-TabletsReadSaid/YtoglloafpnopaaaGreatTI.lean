/- The blocks of a table, in memory; parted. parted: cells in blocks of four. A builder is read: which blocks that changes. -/
import Derived.Test.YtoglloafpnopaaaGreatTH
import Derived.Lib.FrozenHead
import Derived.Lib.UnsafeStr
set_option linter.unusedSimpArgs false
set_option linter.unusedVariables false
namespace Go.Proofs.YtoglloafpnopaaaGreat
set_option maxRecDepth 16000
open Go.RowKit Spoor Go.Shelf
attribute [local go_sem] Oper.semAt_some
def bkRow : List (List Ce) → List Value → List Value
 | g :: gs, v :: vs => .string ⟨(keyG g).toArray⟩ :: v :: bkRow gs vs
 | _, _ => []
theorem bkRow_snoc {g : List Ce} {v : Value} : ∀ {gs : List (List Ce)} {vs : List Value}, vs.length = gs.length → bkRow (gs ++ [g]) (vs ++ [v]) = bkRow gs vs ++ [.string ⟨(keyG g).toArray⟩, v]
 | [], [], _ => rfl
 | [], _ :: _, h => by simp at h
 | _ :: _, [], h => by simp at h
 | a :: gs, b :: vs, h => by
   show _ :: _ :: bkRow (gs ++ [g]) (vs ++ [v]) = _
   rw [bkRow_snoc (by simpa using h)]
   rfl
theorem bkRow_at : ∀ {gs : List (List Ce)} {vs : List Value}, vs.length = gs.length → ∀ i, i < gs.length → (bkRow gs vs)[i * 2]? = some (.string ⟨(keyG (gs.getD i [])).toArray⟩) ∧ (bkRow gs vs)[i * 2 + 1]? = some (vs.getD i undef)
 | [], [], _, i, hi => by simp at hi
 | [], _ :: _, h, _, _ => by simp at h
 | _ :: _, [], h, _, _ => by simp at h
 | a :: gs, b :: vs, h, 0, hi => ⟨rfl, rfl⟩
 | a :: gs, b :: vs, h, i + 1, hi => by
   obtain ⟨h1, h2⟩ := bkRow_at (gs := gs) (vs := vs) (by simpa using h) i (by simpa using hi)
   rw [show (i + 1) * 2 = i * 2 + 1 + 1 by omega]
   exact ⟨h1, h2⟩
def SlG (lo : Nat) (vs : List Value) (gs : List (List Ce)) (W : World) : Prop := vs.length = gs.length ∧ ∀ i, i < gs.length → ∃ b, lo ≤ b ∧ PageAt (vs.getD i undef) (gs.getD i []) b W
theorem SlG.nil (lo : Nat) (W : World) : SlG lo [] [] W := ⟨rfl, fun i hi => by simp at hi⟩
theorem PageAt.kept {s : Value} {g : List Ce} {b : Nat} {W W' : World} (h : PageAt s g b W) (hk : ∀ cur : Array Value, W.heap[b]? = some (.cells cur 38 (0, 0)) → W'.heap[b]? = W.heap[b]?) : PageAt s g b W' := by
 obtain ⟨cap, cur, e1, e2, e3, e4, e5, e6⟩ := h
 exact ⟨cap, cur, e1, e2, e3, (hk cur e4).trans e4, e5, e6⟩
theorem SlG.kept {lo : Nat} {vs : List Value} {gs : List (List Ce)} {W W' : World} (h : SlG lo vs gs W) (hk : ∀ (b : Nat) (cur : Array Value), W.heap[b]? = some (.cells cur 38 (0, 0)) → W'.heap[b]? = W.heap[b]?) : SlG lo vs gs W' :=
 ⟨h.1, fun i hi => by obtain ⟨b, hl, hb⟩ := h.2 i hi; exact ⟨b, hl, hb.kept (hk b)⟩⟩
theorem SlG.later {lo : Nat} {vs : List Value} {gs : List (List Ce)} {W W' : World} (h : SlG lo vs gs W) (hb : Below W.heap.size W W') : SlG lo vs gs W' := h.kept fun b cur hc => hb.block b (Go.ltA hc)
theorem SlG.snoc {lo : Nat} {vs : List Value} {gs : List (List Ce)} {W : World} {s : Value} {g : List Ce} {b : Nat} (h : SlG lo vs gs W) (hl : lo ≤ b) (hP : PageAt s g b W) : SlG lo (vs ++ [s]) (gs ++ [g]) W := by
 refine ⟨by simp [h.1], fun i hi => ?_⟩
 rw [List.length_append, List.length_singleton] at hi
 by_cases hlt : i < gs.length
 · obtain ⟨b', hl', hb'⟩ := h.2 i hlt
   refine ⟨b', hl', ?_⟩
   have e1 : (vs ++ [s]).getD i undef = vs.getD i undef := by simp [List.getD, List.getElem?_append_left (show i < vs.length by rw [h.1]; exact hlt)]
   have e2 : (gs ++ [g]).getD i [] = gs.getD i [] := by simp [List.getD, List.getElem?_append_left hlt]
   rw [e1, e2]
   exact hb'
 · obtain rfl : i = gs.length := by omega
   refine ⟨b, hl, ?_⟩
   have e1 : (vs ++ [s]).getD gs.length undef = s := by rw [← h.1]; simp [List.getD]
   have e2 : (gs ++ [g]).getD gs.length [] = g := by simp [List.getD]
   rw [e1, e2]
   exact hP
theorem page_own {w : World} {base : Nat} {v : Value} {l : List Ce} (h : w.ownsRow base 38 3 v l.length (rowOf l)) (h0 : 0 < l.length) : ∃ b, PageAt v l b w ∧ base ≤ b := by
 rcases h.2 with ⟨_, e⟩ | ⟨g, cap, cur, rfl, hb, hg, h1, h2, h3, h4⟩
 · omega
 · exact ⟨g, ⟨cap, cur, rfl, h1, h2, hg, by omega, h4⟩, hb⟩
def BksAt (lo : Nat) (v : Value) (gs : List (List Ce)) (w : World) : Prop := ∃ A cap, v = .slice A gs.length cap ∧ gs.length ≤ cap ∧ cap ≤ maxLen ∧ (gs.length = 0 → (A = none ∧ cap = 0) ∨ ∃ g, A = some ⟨g, 0, none⟩) ∧ (0 < gs.length → ∃ g, A = some ⟨g, 0, none⟩ ∧ lo ≤ g ∧ g < w.heap.size ∧ ∀ i, i < gs.length →
 w.cell? ⟨g, i * 2, none⟩ = some (.string ⟨(keyG (gs.getD i [])).toArray⟩) ∧ ∃ s b, w.cell? ⟨g, i * 2 + 1, none⟩ = some s ∧ lo ≤ b ∧ PageAt s (gs.getD i []) b w)
theorem BksAt.same {lo : Nat} {v : Value} {gs : List (List Ce)} {w w' : World} (h : BksAt lo v gs w) (hk : ∀ k, lo ≤ k → k < w.heap.size → w'.heap[k]? = w.heap[k]?) (hs : w.heap.size ≤ w'.heap.size) : BksAt lo v gs w' := by
 obtain ⟨A, cap, e, h1, h2, hz, h3⟩ := h
 refine ⟨A, cap, e, h1, h2, hz, fun h0 => ?_⟩
 obtain ⟨g, e2, hl, hg, hc⟩ := h3 h0
 refine ⟨g, e2, hl, Nat.lt_of_lt_of_le hg hs, fun i hi => ?_⟩
 obtain ⟨c1, s, b, c2, c3, c4⟩ := hc i hi
 have hk1 := hk g hl hg
 exact ⟨(World.cell?_of_block (a := ⟨g, i * 2, none⟩) hk1).trans c1, s, b, (World.cell?_of_block (a := ⟨g, i * 2 + 1, none⟩) hk1).trans c2, c3, c4.kept fun cur hcur => hk b c3 (Go.ltA hcur)⟩
theorem BksAt.later {lo : Nat} {v : Value} {gs : List (List Ce)} {w w' : World} (h : BksAt lo v gs w) (hb : Below w.heap.size w w') : BksAt lo v gs w' := h.same (fun k _ hk => hb.block k hk) hb.size
theorem BksAt.of {lo : Nat} {v : Value} {gs : List (List Ce)} {vs : List Value} {w : World} {base : Nat} (own : w.ownsRow base 84 2 v gs.length (bkRow gs vs)) (hlo : lo ≤ base) (h : SlG lo vs gs w) : BksAt lo v gs w := by
 rcases own.2 with ⟨rfl, h0⟩ | ⟨g, cap, cur, rfl, hb, hg, h1, h2, h3, h4⟩
 · exact ⟨none, 0, by rw [h0], by omega, by unfold maxLen; omega, fun _ => .inl ⟨rfl, rfl⟩, fun h => by omega⟩
 · refine ⟨_, cap, rfl, h1, h2, fun _ => .inr ⟨g, rfl⟩, fun h0 => ⟨g, rfl, Nat.le_trans hlo hb, (Go.ltA hg), fun i hi => ?_⟩⟩
   obtain ⟨a1, a2⟩ := bkRow_at h.1 i hi
   obtain ⟨b, hlb, hP⟩ := h.2 i hi
   have key : ∀ j u, j < gs.length * 2 → (bkRow gs vs)[j]? = some u → w.cell? ⟨g, j, none⟩ = some u := by
    intro j u hj hu
    rw [← h4, List.getElem?_take, if_pos hj] at hu
    simp [World.cell?, hg]
    rw [← Array.getElem?_toList]
    exact hu
   exact ⟨key _ _ (by omega) a1, _, b, key _ _ (by omega) a2, hlb, hP⟩
theorem info_block : (Tryz.prog.info? 84).map (fun i => (i.zero, i.size, i.bytes)) = some (some (.agg #[.string ⟨#[]⟩, .slice none 0 0]), 2, 40) := by kernel_rfl
theorem bk_append {lo base : Nat} {v : Value} {gs : List (List Ce)} {vs : List Value} {W : World} (own : W.ownsRow base 84 2 v gs.length (bkRow gs vs)) (hsl : SlG lo vs gs W) (hb : base ≤ W.heap.size) (g : List Ce) {s : Value} {b : Nat} (hlb : lo ≤ b) (hP : PageAt s g b W) (X : Nat)
 (hX : W.heap[X]? = some (.cells #[.string ⟨(keyG g).toArray⟩, s] 84 (0, 0))) (hn : gs.length ≤ 1000000) :
 ∃ v' w', (Builtin.append_ #[76, 76] 76 #[v, .slice (some ⟨X, 0, none⟩) 1 1]).run Tryz.prog W = .ok v' w' ∧ w'.ownsRow base 84 2 v' (gs ++ [g]).length (bkRow (gs ++ [g]) (vs ++ [s])) ∧ SlG lo (vs ++ [s]) (gs ++ [g]) w' ∧ W.grownBy w' v.ownBlock ∧ (∃ g' c', v' = .slice (some ⟨g', 0, none⟩) (gs.length + 1) c') := by
 obtain ⟨i, hi, hz0, hz1, hz2⟩ := info_one info_block
 obtain ⟨cp, cu, hs, -⟩ := id hP
 obtain ⟨v', w', hrun, r1, r2, r3⟩ := run_append_own (P := Tryz.prog) W base 76 76 84 i _ 2 40 Tryz.underlying76 hi hz0 hz1 hz2 rfl (by decide) v gs.length (bkRow gs vs) own ⟨X, 0, none⟩ 1 1 [.string ⟨(keyG g).toArray⟩, s] rfl
  (fun j u hj => by
    match j, hj with
    | 0, hj => simp at hj; subst hj; simp [World.cell?, hX, Addr.add]
    | 1, hj => simp at hj; subst hj; simp [World.cell?, hX, Addr.add]
    | j + 2, hj => simp at hj) (fun u hu => by
    rcases List.mem_cons.1 hu with rfl | hu
    · rfl
    · rw [List.mem_singleton] at hu
      subst hu
      rw [hs]
      rfl) (by unfold maxLen; omega) (by omega) hb
 obtain ⟨g', c', hv'⟩ := ownsRow_succ r1
 refine ⟨v', w', hrun, ?_, ?_, r2, g', c', hv'⟩
 · rw [List.length_append, bkRow_snoc hsl.1]
   exact r1
 · refine (hsl.snoc hlb hP).kept fun k cur hc => r2.block k (Go.ltA hc) fun e => ?_
   exact own_not own hc (fun cur' e' => by cases e') e.symm
def PtAt (q n₁ : Nat) (gs : List (List Ce)) (W : World) : Prop :=
 ∃ v vs, Boxed W q 76 v ∧ W.ownsRow n₁ 84 2 v gs.length (bkRow gs vs) ∧ SlG n₁ vs gs W ∧ q < n₁ ∧ n₁ ≤ W.heap.size
theorem PtAt.kept {q n₁ : Nat} {gs : List (List Ce)} {W W' : World} {row : Option Nat} (h : PtAt q n₁ gs W) (hg : W.grownBy W' row) (hr : ∀ r, row = some r → ∃ o : Obj, W.heap[r]? = some o ∧ o.isCells = false) : PtAt q n₁ gs W' := by
 obtain ⟨v, vs, h1, h2, h3, h4, h5⟩ := h
 have key : ∀ (r : Nat) (cur : Array Value) (t : TypeId), W.heap[r]? = some (.cells cur t (0, 0)) → W'.heap[r]? = W.heap[r]? := fun r cur t hc => hg.block r (Go.ltA hc) fun e => by
  obtain ⟨o, ho, hn⟩ := hr r e.symm
  rw [hc] at ho
  cases ho
  cases hn
 refine ⟨v, vs, (key _ _ _ h1).trans h1, h2.kept hg ?_, h3.kept fun b cur hc => key b cur _ hc, h4, Nat.le_trans h5 hg.size⟩
 cases row with
 | none =>
   rcases hv : v.ownBlock with _ | r
   · exact .inl rfl
   · exact .inr (by simp)
 | some r =>
   obtain ⟨o, ho, hn⟩ := hr r rfl
   exact .inr (own_not h2 ho fun cur e => by rw [e] at hn; cases hn)
theorem pt_step {q n₁ : Nat} {gs : List (List Ce)} {W : World} (h : PtAt q n₁ gs W) (hn : gs.length ≤ 1000000) :
 ∃ v, Boxed W q 76 v ∧ q < n₁ ∧ n₁ ≤ W.heap.size ∧
  ∀ (g : List Ce) (w2 : World) (b' m cap' : Nat), Below W.heap.size W w2 → W.heap.size ≤ b' → PageAt (.slice (some ⟨b', 0, none⟩) m cap') g b' w2 →
   ∃ g' c' w3, ((Builtin.append_ #[76, 76] 76 #[v, .slice (some ⟨w2.heap.size, 0, none⟩) 1 1]).run Tryz.prog (w2.alloc (.cells #[.string ⟨(keyG g).toArray⟩, .slice (some ⟨b', 0, none⟩) m cap'] 84)) = .ok (.slice (some ⟨g', 0, none⟩) (gs.length + 1) c') w3) ∧
    Boxed w3 q 76 v ∧ (∀ k, k < n₁ → w3.heap[k]? = W.heap[k]?) ∧
    PtAt q n₁ (gs ++ [g]) (w3.setCell ⟨q, 0, none⟩ (.slice (some ⟨g', 0, none⟩) (gs.length + 1) c')) ∧ KeepsOthers W (w3.setCell ⟨q, 0, none⟩ (.slice (some ⟨g', 0, none⟩) (gs.length + 1) c')) ∧ (∀ k, k < n₁ → k ≠ q → (w3.setCell ⟨q, 0, none⟩ (.slice (some ⟨g', 0, none⟩) (gs.length + 1) c')).heap[k]? = W.heap[k]?) ∧ (∀ B, B ≤ q → Below B W (w3.setCell ⟨q, 0, none⟩ (.slice (some ⟨g', 0, none⟩) (gs.length + 1) c'))) := by
 obtain ⟨v, vs, h1, h2, h3, h4, h5⟩ := h
 refine ⟨v, h1, h4, h5, fun g w2 b' m cap' hb hb' hP => ?_⟩
 obtain ⟨X, hX⟩ : ∃ X, (Obj.cells #[.string ⟨(keyG g).toArray⟩, .slice (some ⟨b', 0, none⟩) m cap'] 84 (0, 0)) = X := ⟨_, rfl⟩
 have hbX : Below W.heap.size W (w2.alloc X) := hb.alloc hb.size X
 have hsz := hb.size
 have hown := own_lat h2 hbX
 have hnew : (w2.alloc X).heap[w2.heap.size]? = some X := heap_alloc_new w2 X
 have hP2 : PageAt (.slice (some ⟨b', 0, none⟩) m cap') g b' (w2.alloc X) := hP.kept fun cur hc => Below.heap_alloc w2 X b' (Go.ltA hc)
 obtain ⟨v', w3, hrun, r1, r4, r2, g', c', hv'⟩ := bk_append hown (h3.later hbX) (by simp; omega) g (by omega) hP2 w2.heap.size (by rw [hnew, hX]) hn
 subst hv'
 have low : ∀ k, k < n₁ → w3.heap[k]? = W.heap[k]? := fun k hk => by
  refine (r2.block k (by simp; omega) fun e => ?_).trans (hbX.block k (by omega))
  rcases hown.2 with ⟨rfl, _⟩ | ⟨g, cap, cur, rfl, hgb, _⟩
  · simp [Value.ownBlock] at e
  · have e2 : k = g := by simpa [Value.ownBlock] using e
    omega
 have hq3 : Boxed w3 q 76 v := (low q h4).trans h1
 have hset : ∀ k, k ≠ q → (w3.setCell ⟨q, 0, none⟩ (.slice (some ⟨g', 0, none⟩) (gs.length + 1) c')).heap[k]? = w3.heap[k]? := fun k hk => Below.heap_setCell w3 ⟨q, 0, none⟩ _ k hk
 refine ⟨g', c', w3, hX ▸ hrun, hq3, low, ⟨_, vs ++ [.slice (some ⟨b', 0, none⟩) m cap'], hq3.set _, ?_, ?_, h4, ?_⟩, ?_, fun k hk1 hk2 => (hset k hk2).trans (low k hk1), fun B hB => ?_⟩
 · refine own_same r1 fun g hg => hset g ?_
   rintro rfl
   rcases r1.2 with ⟨h, _⟩ | ⟨g2, cap, cur, h, hgb, _⟩
   · cases h
   · rw [h] at hg
     have e2 : g2 = g := by simpa [Value.ownBlock] using hg
     omega
 · refine r4.kept fun b cur hc => hset b ?_
   rintro rfl
   rw [show w3.heap[b]? = _ from hq3] at hc
   cases hc
 · rw [World.size_setCell]
   have := r2.size
   have e : (w2.alloc X).heap.size = w2.heap.size + 1 := by simp
   omega
 · have k1 : KeepsOthers W (w2.alloc X) := ⟨hbX.size, fun k o hk _ => (hbX.block k (Go.ltA hk)).trans hk⟩
   refine (k1.trans (KeepsOthers.of_grownBy r2 fun j o ej hj => ?_)).trans (KeepsOthers.setCell _ _ _)
   rcases hown.2 with ⟨rfl, _⟩ | ⟨g2, cap, cur, rfl, _, hgb, _⟩
   · simp [Value.ownBlock] at ej
   · have e2 : g2 = j := by simpa [Value.ownBlock] using ej
     rw [← e2, hgb] at hj
     cases hj
     rfl
 · have hbB : Below B W (w2.alloc X) := hbX.mono (by omega)
   refine below_set (hbB.grown r2 (by simp; omega) fun k ek => ?_) hB 0 _
   rcases hown.2 with ⟨rfl, _⟩ | ⟨g2, cap, cur, rfl, hgb, _⟩
   · simp [Value.ownBlock] at ek
   · have e2 : g2 = k := by simpa [Value.ownBlock] using ek
     omega
def chOf (l : List Ce) (i : Nat) : List Ce := (l.drop (i * 4)).take (min 4 (l.length - i * 4))
theorem chOf_fours (l : List Ce) (K : Nat) (h1 : l.length ≤ K * 4) (h2 : K * 4 < l.length + 4) : (List.range K).map (chOf l) = fours l := by
 have e : (l.length + 3) / 4 = K := by omega
 apply List.ext_getElem
 · rw [List.length_map, List.length_range, fours_length, e]
 · intro i hi1 hi2
   rw [List.length_map, List.length_range] at hi1
   have h3 := fours_get l i (by omega)
   have h4 : (fours l)[i] = (fours l).getD i [] := by simp [List.getD, hi2]
   rw [List.getElem_map, List.getElem_range, h4, h3]
   unfold chOf
   by_cases h5 : 4 ≤ l.length - i * 4
   · rw [Nat.min_eq_left h5]
   · rw [Nat.min_eq_right (by omega), List.take_of_length_le (by rw [List.length_drop]; exact Nat.le_refl _), List.take_of_length_le (by rw [List.length_drop]; omega)]
attribute [local go_sem] Oper.semAt_some
set_option maxRecDepth 100000 in
set_option maxHeartbeats 8000000 in
theorem partedT_any (s : Value) (l : List Ce) (w : World) (hs : SlAt s l w) (hbig : l.length ≤ 100000) :
 Calls Tryz.prog 31 #[s] w fun e w' => ∃ v, e = .returned v ∧ BksAt w.heap.size v (fours l) w' ∧ Below w.heap.size w w' := by
 obtain ⟨A, cap, rfl, hlc, hcap, hrow⟩ := hs
 obtain ⟨b, o, hA⟩ : ∃ b o, 0 < l.length → A = some ⟨b, o, none⟩ ∧ RowAt b o l w := by
  by_cases h : 0 < l.length
  · obtain ⟨b, o, h1, h2⟩ := hrow h
    exact ⟨b, o, fun _ => ⟨h1, h2⟩⟩
  · exact ⟨0, 0, fun h' => absurd h' h⟩
 clear hrow
 refine (callsIn_wide (n := 5)).1 ?_
 refine callsIn_of_wp_marks Tryz.func31 rfl trivial ?_ rfl
 simp only [Tryz.ntmps31, List.size_toArray, List.length_cons, List.length_nil, Nat.reduceAdd, Nat.reduceSub, Array.replicate_succ, Array.replicate_zero, List.push_toArray, List.append_toArray, List.nil_append, List.cons_append]
 gi_wp2_with (first
  | (refine ⟨trivial, ?_⟩; gi_at_call 63; refine (chunk_in _ _ _ _ _).mono ?_; rintro e w2 ⟨rfl, rfl⟩))
 obtain ⟨q, hqe⟩ : ∃ q, w.heap.size = q := ⟨_, rfl⟩
 have bQ := Boxed.new w 76 (.slice none 0 0)
 have bS := Boxed.new (w.alloc (.cells #[.slice none 0 0] 76)) 22 (.slice A l.length cap)
 have bN := Boxed.new ((w.alloc (.cells #[.slice none 0 0] 76)).alloc (.cells #[.slice A l.length cap] 22)) 3 (.int .i64 4)
 rw [World.size_alloc] at bS
 rw [World.size_alloc, World.size_alloc] at bN
 have bQ := (bQ.alloc (.cells #[.slice A l.length cap] 22)).alloc (.cells #[.int .i64 4] 3)
 have bS := bS.alloc (.cells #[.int .i64 4] 3)
 have B0 := (((Below.refl w.heap.size w).alloc (Nat.le_refl _) (.cells #[.slice none 0 0] 76)).alloc (by simp) (.cells #[.slice A l.length cap] 22)).alloc (by simp; omega) (.cells #[.int .i64 4] 3)
 have hsz : (((w.alloc (.cells #[.slice none 0 0] 76)).alloc (.cells #[.slice A l.length cap] 22)).alloc (.cells #[.int .i64 4] 3)).heap.size = q + 3 := by simp; omega
 obtain ⟨W0, hW0⟩ : ∃ W0, (((w.alloc (.cells #[.slice none 0 0] 76)).alloc (.cells #[.slice A l.length cap] 22)).alloc (.cells #[.int .i64 4] 3)) = W0 := ⟨_, rfl⟩
 rw [hW0] at bQ bS bN B0 hsz ⊢
 rw [hqe] at bQ bS bN B0 ⊢
 have hA' : 0 < l.length → A = some ⟨b, o, none⟩ ∧ RowAt b o l w ∧ b < q := fun h => ⟨(hA h).1, (hA h).2, by rw [← hqe]; exact (hA h).2.1⟩
 have hO : PtAt q (q + 3) [] W0 := ⟨_, [], bQ, World.ownsRow_nil _ _ _ _, SlG.nil _ _, by omega, by omega⟩
 clear hW0 hA
 refine wpIn_rangeFunc_ownG rfl (by omega) (gf := 88) (lb := #[.pointer (some ⟨q + 1, 0, none⟩), .pointer (some ⟨q + 2, 0, none⟩)]) rfl trivial (enters_of Tryz.func88 (by kernel_rfl) rfl)
  (chunk_stops 4 (by omega) (q + 1) (q + 2) q b o l.length cap A (fun h => (hA' h).1) (by omega) hlc hcap W0 bS bN) KpC.trans (KpC.book (by omega) (by omega) (by omega)) (Below.refl _ _) (fun _ => rfl)
  (fun pre W => PtAt q (q + 3) (pre.map fun x => chOf l x.1) W ∧ Below q w W)
  (fun _ _ _ => False)
  (OwnFrom.and (Own.from (fun s A B row hs hg hr => hs.kept hg hr) _) (ownFrom_below (by omega) (by omega)))
  (fun _ _ _ _ _ hs _ _ => hs)
  ⟨hO, B0⟩
  (fun x => { tmps := #[.slice A l.length cap, undef, .slice none 0 0, .pointer (some ⟨q, 0, none⟩), .slice (some ⟨b, o + x.1 * 4 * 3, none⟩) (min 4 (l.length - x.1 * 4)) (min 4 (l.length - x.1 * 4)), .slice A l.length cap, .func (.func 88) #[] #[.pointer (some ⟨q + 1, 0, none⟩), .pointer (some ⟨q + 2, 0, none⟩)], .slice (some ⟨b, o + x.1 * 4 * 3, none⟩) (min 4 (l.length - x.1 * 4)) (min 4 (l.length - x.1 * 4)), undef, undef, undef, undef, undef, undef, undef, undef, undef, undef, undef], defers := [] }) ?assign ?body ?done ?stop
 case assign =>
  intro lp x W K hK
  gi_wp2
  exact hK
 case body =>
  rintro lp pre ⟨i, hi⟩ W ⟨hI, hB⟩ hlt
  obtain ⟨rfl, hRow, hbq'⟩ := hA' (by omega)
  obtain ⟨v, hbq, hqn, hnW, step⟩ := pt_step hI (by rw [List.length_map]; omega)
  obtain ⟨m, hm⟩ : ∃ m, min 4 (l.length - i * 4) = m := ⟨_, rfl⟩
  have hpart := (hRow.later hB (by omega)).part (i * 4) m (by omega)
  have hch : chOf l i = (l.drop (i * 4)).take m := by rw [chOf, hm]
  have hcl : (chOf l i).length = m := by rw [hch, List.length_take, List.length_drop]; omega
  rw [← hch] at hpart
  have cl := fun W' (hb : Below W.heap.size W W') => cloneC_any b (o + i * 4 * 3) m m (chOf l i) W' hcl (by omega) (by omega) (hpart.later hb hpart.1)
  obtain ⟨d, hd⟩ : ∃ d, (chOf l i).getD 0 Ce.zero = d := ⟨_, rfl⟩
  have hkey : keyG (chOf l i) = d.k := by
   rw [← hd]
   unfold keyG
   rw [head_getD]
  obtain ⟨x0, x1, x2⟩ := hpart.cells (i := 0) (by omega)
  rw [hd] at x0
  simp only [Nat.zero_mul, Nat.add_zero] at x0
  have hbl : b < W.heap.size := hpart.1
  have f5 := hbq.cell
  have hmx : Tryz.prog.follows .mixedOrders = true := by kernel_rfl
  have hm0 : 0 < m := by omega
  have CL := Lib.hid cl
  have ST := Lib.hid step
  have KB := Lib.hid hB
  have HK := Lib.hid hkey
  dsimp only
  rw [hm]
  clear hI hRow hpart cl step hB bQ bS bN B0 hO hm hlc hcap hA' hsz x1 x2 hd hch hcl hkey
  gi_wp2
  refine wpIn_region_late (fun W' => W'.cell? ⟨q, 0, none⟩ = some v ∧ W'.cell? ⟨b, o + i * 4 * 3, none⟩ = some (.string ⟨d.k.toArray⟩)) (fun j => j == 10) hmx ?_
  have hS : W.drew.cell? ⟨q, 0, none⟩ = some v ∧ W.drew.cell? ⟨b, o + i * 4 * 3, none⟩ = some (.string ⟨d.k.toArray⟩) := ⟨f5, x0⟩
  refine AnyS.take (i := 0) (v) rfl (by kernel_rfl) (by kernel_rfl) (by kernel_rfl) (by kernel_rfl) (fun _ _ _ h => h) ⟨.inl ⟨rfl, fun w' hw' => by obtain ⟨h1, h2⟩ := hw'; go_simp⟩, fun _ => rfl⟩ hS ?_
  refine AnyS.take (i := 1) (.slice (some ⟨b, o + i * 4 * 3, none⟩) m m) rfl (by kernel_rfl) (by kernel_rfl) (by kernel_rfl) (by kernel_rfl) (fun _ _ _ h => h) ⟨.inl ⟨rfl, fun w' hw' => by obtain ⟨h1, h2⟩ := hw'; go_simp⟩, fun _ => rfl⟩ hS ?_
  refine AnyS.take (i := 2) (.pointer (some ⟨b, o + i * 4 * 3, none⟩)) rfl (by kernel_rfl) (by kernel_rfl) (by kernel_rfl) (by kernel_rfl) (fun _ _ _ h => h) ⟨.inl ⟨rfl, fun w' hw' => by obtain ⟨h1, h2⟩ := hw'; go_simp⟩, fun _ => rfl⟩ hS ?_
  refine AnyS.take (i := 3) (.pointer (some ⟨b, o + i * 4 * 3, none⟩)) rfl (by kernel_rfl) (by kernel_rfl) (by kernel_rfl) (by kernel_rfl) (fun _ _ _ h => h) ⟨.inl ⟨rfl, fun w' hw' => by obtain ⟨h1, h2⟩ := hw'; go_simp⟩, fun _ => rfl⟩ hS ?_
  refine AnyS.take (i := 4) (.string ⟨d.k.toArray⟩) rfl (by kernel_rfl) (by kernel_rfl) (by kernel_rfl) (by kernel_rfl) (fun _ _ _ h => h) ⟨.inl ⟨rfl, fun w' hw' => by obtain ⟨h1, h2⟩ := hw'; go_simp⟩, fun _ => rfl⟩ hS ?_
  refine AnyS.take (i := 5) (.slice (some ⟨b, o + i * 4 * 3, none⟩) m m) rfl (by kernel_rfl) (by kernel_rfl) (by kernel_rfl) (by kernel_rfl) (fun _ _ _ h => h) ⟨.inl ⟨rfl, fun w' hw' => by obtain ⟨h1, h2⟩ := hw'; go_simp⟩, fun _ => rfl⟩ hS ?_
  refine AnyS.next (i := 6) rfl (by kernel_rfl) (by kernel_rfl) fun K hK => ?_
  go_simp
  refine ⟨trivial, (CallsIn.inRound lp (callsIn_wide.2 (CL.out _ (Below.drew (Below.refl _ _))))).mono ?_⟩
  rintro e w2 ⟨hb, b', cap', rfl, hb', hP⟩
  have B2 : Below W.heap.size W w2 := (Below.drew (Below.refl _ W)).trans hb
  obtain ⟨g', c', w3, hrun, g1, glow, hfin⟩ := ST.out (chOf l i) w2 b' m cap' B2 hb' hP
  rw [HK.out] at hrun
  simp only [List.length_map] at hfin hrun
  have B3 := B2.alloc B2.size (.cells #[.string ⟨d.k.toArray⟩, .slice (some ⟨b', 0, none⟩) m cap'] 84)
  have hS2 : w2.cell? ⟨q, 0, none⟩ = some v ∧ w2.cell? ⟨b, o + i * 4 * 3, none⟩ = some (.string ⟨d.k.toArray⟩) := ⟨(B2.cell (p := ⟨q, 0, none⟩) (by simp; omega)).trans f5, (B2.cell (p := ⟨b, o + i * 4 * 3, none⟩) hbl).trans x0⟩
  refine hK _ _ (fun _ => hS2) ?_
  clear hK K
  refine AnyS.next (i := 7) rfl (by kernel_rfl) (by kernel_rfl) fun K hK => ?_
  go_simp
  refine hK _ _ (fun _ => hS2) ?_
  clear hK K
  refine AnyS.next (i := 8) rfl (by kernel_rfl) (by kernel_rfl) fun K hK => ?_
  go_simp
  refine hK _ _ (fun _ => ⟨(B3.cell (p := ⟨q, 0, none⟩) (by simp; omega)).trans f5, (B3.cell (p := ⟨b, o + i * 4 * 3, none⟩) hbl).trans x0⟩) ?_
  clear hK K
  refine AnyS.next (i := 9) rfl (by kernel_rfl) (by kernel_rfl) fun K hK => ?_
  refine want_yes rfl ?_
  refine opIn_value _ (fun c h => by cases h) rfl (exec_append (s := .tmp 8) (x := .tmp 16) rfl rfl rfl hrun) ?_
  refine hK _ _ (fun _ => ⟨g1.cell, (World.cell?_of_block (a := ⟨b, o + i * 4 * 3, none⟩) (glow b (by omega))).trans x0⟩) ?_
  clear hK K
  have a5 := g1.cell
  have a6 := g1.frozen
  refine AnyS.next (i := 10) rfl (by kernel_rfl) (by kernel_rfl) fun K hK => ?_
  go_simp
  refine hK _ _ (fun h => by cases h) ?_
  clear hK K
  refine AnyS.done (by kernel_rfl) ?_ _
  obtain ⟨r1, r2, r3, r4⟩ := hfin
  have hBB := r4 q (Nat.le_refl _)
  exact ⟨r2.from _, ⟨hBB, r3 (q + 1) (by omega) (by omega), r3 (q + 2) (by omega) (by omega)⟩, by rw [List.map_append]; exact r1, KB.out.trans hBB⟩
 case done =>
  rintro D ys W hD ⟨K, hK1, hK2, hys⟩ ⟨hI, hB⟩ hK
  have hgs : (ys.map fun x => chOf l x.1) = fours l := by
   rw [← chOf_fours l K hK1 hK2, ← hys, List.map_map]
   rfl
  rw [hgs] at hI
  have hI2 : ∀ o', PtAt q (q + 3) (fours l) (W.putObj D o') := fun o' => hI.kept (row := some D) ⟨rfl, rfl, rfl, by simp, fun k _ hne => World.putObj_heap_other fun e => hne (by rw [e])⟩ (fun r hr => by cases hr; exact ⟨_, hK, rfl⟩)
  obtain ⟨v, vs, h1, h2, h3, -⟩ := id hI
  have f5 := h1.cell
  have HH := Lib.hid (fun o' => show BksAt w.heap.size v (fours l) (W.putObj D o') from by
   obtain ⟨v', vs', h1', h2', h3', -⟩ := hI2 o'
   have e : v = v' := by
    have hq : (W.putObj D o').heap[q]? = W.heap[q]? := World.putObj_heap_other fun e => by
     have h9 : W.heap[q]? = some (.cells #[v] 76 (0, 0)) := h1
     rw [e, show W.heap[D]? = _ from hK] at h9
     cases h9
    have a1 : (W.putObj D o').heap[q]? = some (.cells #[v] 76 (0, 0)) := hq.trans h1
    have a2 : (W.putObj D o').heap[q]? = some (.cells #[v'] 76 (0, 0)) := h1'
    rw [a1] at a2
    injection a2 with a2
    injection a2 with a2
    simpa using a2
   rw [e]
   have h4' : SlG w.heap.size vs' (fours l) (W.putObj D o') := ⟨h3'.1, fun i hi => by obtain ⟨b, hl, hb⟩ := h3'.2 i hi; exact ⟨b, by omega, hb⟩⟩
   exact BksAt.of h2' (by omega) h4')
  have HB := Lib.hid hB
  have HD := Lib.hid hD
  clear hI2 hI hB hgs hys hK1 hK2 h1 h2 h3 hO bQ bS bN B0 hA' hD
  gi_wp2
  refine ⟨by simp, .inl ⟨_, _, rfl, run_takeDeferred hK, ?_⟩⟩
  refine ⟨_, results_tmp rfl _ _ _, v, rfl, HH.out _, ?_⟩
  rw [hqe]
  exact HB.out.trans (belowK_b (w := W0) (by omega) W D _ _ HD.out hK rfl rfl)
 case stop =>
  rintro D c pre W _ _ h _
  exact h.elim
def BldR (b : Nat) (l : List UInt8) (fs : List Nat) (w : World) : Prop :=
 b ∈ fs ∧ (∀ x ∈ fs, x < w.heap.size) ∧ ∃ p v, (p = .pointer none ∨ p = .pointer (some ⟨b, 0, none⟩)) ∧ Lib.BuilderAtF 75 5 0 b p (Lib.byteCells l) w ∧ w.heap[b]? = some (.cells #[p, v] 75 (0, 0)) ∧ (∀ k, v.ownBlock = some k → k ∈ fs) ∧ (l = [] → v = .slice none 0 0)
theorem BldR.of {b : Nat} {l : List UInt8} {fs : List Nat} {w : World} (h : BldF b l fs w) (hl : l ≠ [] ∨ ∀ p v, w.heap[b]? = some (.cells #[p, v] 75 (0, 0)) → v = .slice none 0 0) : BldR b l fs w := by
 obtain ⟨h1, h2, p, v, hp, h3, h4, h5⟩ := h
 refine ⟨h1, h2, p, v, hp, ⟨Nat.zero_le _, v, h3, World.ownsRowF_of (by rw [byteCells_length]; exact h4), fun e => (h5 b e).2 rfl⟩, h3, fun k hk => (h5 k hk).1, fun e => ?_⟩
 rcases hl with hl | hl
 · exact absurd e hl
 · exact hl p v h3
theorem BldR.same {b : Nat} {l : List UInt8} {fs : List Nat} {w w' : World} (h : BldR b l fs w) (hk : ∀ x ∈ fs, w'.heap[x]? = w.heap[x]?) (hs : w.heap.size ≤ w'.heap.size) : BldR b l fs w' := by
 obtain ⟨h1, h2, p, v, hp, ⟨a1, v1, a2, a3, a4⟩, h3, h5, h6⟩ := h
 obtain rfl : v1 = v := by
  rw [h3] at a2
  injection a2 with a2
  injection a2 with a2
  simpa using a2.symm
 refine ⟨h1, fun x hx => Nat.lt_of_lt_of_le (h2 x hx) hs, p, v1, hp, ⟨a1, v1, (hk b h1).trans a2, ⟨a3.1, ?_⟩, a4⟩, (hk b h1).trans h3, h5, h6⟩
 rcases a3.2 with h | ⟨g, cap, cur, fz, rfl, hb, hg, h7⟩
 · exact .inl h
 · exact .inr ⟨g, cap, cur, fz, rfl, hb, (hk g (h5 g rfl)).trans hg, h7⟩
theorem BldR.fr {b : Nat} {l : List UInt8} {fs S : List Nat} {w w' : World} (h : BldR b l fs w) (f : Fr S w w') (hd : ∀ x ∈ fs, x ∉ S) : BldR b l fs w' := by
 have h2 := h.2.1
 exact h.same (fun x hx => f.block x (h2 x hx) (hd x hx)) f.size
theorem BldR.later {b : Nat} {l : List UInt8} {fs : List Nat} {w w' : World} (h : BldR b l fs w) (hb : Below w.heap.size w w') : BldR b l fs w' := h.fr (S := []) (Fr.of_below hb) (by simp)
theorem fr_freeze {S : List Nat} {a w : World} (h : Fr S a w) (g n : Nat) (hg : g ∈ S) : Fr S a (w.freeze ⟨g, 0, none⟩ n) := by
 unfold World.freeze
 split
 · exact h
 · refine ⟨h.os, h.tape, h.output, by have := h.size; simpa using this, fun k hk hm => ?_⟩
   refine Eq.trans ?_ (h.block k hk hm)
   simp only [Array.getElem?_modify]
   rw [if_neg (fun e => hm (by rw [← e]; exact hg))]
theorem freeze_size (w : World) (g n : Nat) : (w.freeze ⟨g, 0, none⟩ n).heap.size = w.heap.size := by
 unfold World.freeze
 split
 · rfl
 · simp
theorem freeze_other (w : World) (g n k : Nat) (h : k ≠ g) : (w.freeze ⟨g, 0, none⟩ n).heap[k]? = w.heap[k]? := by
 unfold World.freeze
 split
 · rfl
 · simp only [Array.getElem?_modify]
   rw [if_neg (fun e => h e.symm)]
set_option maxHeartbeats 1000000 in
set_option maxRecDepth 100000 in
theorem strF_any (b : Nat) (l : List UInt8) (fs : List Nat) (w : World) (h : BldR b l fs w) :
 Calls Tryz.prog 37 #[.pointer (some ⟨b, 0, none⟩)] w fun e w' => e = .returned (.string ⟨l.toArray⟩) ∧ BldR b l fs w' ∧ Fr fs w w' := by
 obtain ⟨h1, h2, p, v, hp, hA, h3, h5, h6⟩ := id h
 obtain ⟨-, v1, a2, hown, hne⟩ := id hA
 obtain rfl : v1 = v := by
  rw [h3] at a2
  injection a2 with a2
  injection a2 with a2
  simpa using a2.symm
 by_cases h0 : l = []
 · obtain rfl := h6 h0
   subst h0
   have c1 : w.drew.cell? ⟨b, 1, none⟩ = some (.slice none 0 0) := by
    have : w.drew.heap[b]? = some (.cells #[p, .slice none 0 0] 75 (0, 0)) := h3
    rw [Lib.cell_of_heap this]; rfl
   have hUS := Lib.run_unsafeString_none (P := Tryz.prog) w.drew 123 3 9 none
   have hSD : (Builtin.unsafeSliceData_ #[73] 123 #[.slice none 0 0]).run Tryz.prog w.drew = .ok (.pointer none) w.drew := rfl
   have hd := h.later (Below.drew (Below.refl _ w))
   have hf : Fr fs w w.drew := Fr.of_below (Below.drew (Below.refl _ w))
   have HD := Lib.hid (And.intro hd hf)
   clear h h1 h2 hp hA h3 h5 h6 a2 hown hne hd hf
   go_enter Tryz.func37, Tryz.ntmps37
   go_wp2_with fail
   go_region_with fail
   all_goals
    go_wp2_with fail
    go_ret
    exact ⟨rfl, HD.out⟩
 · have hl0 : l.length ≠ 0 := by simpa using h0
   rw [Lib.byteCells_length] at hown
   obtain ⟨g, cap, cur, fz, rfl, hbg, hg, hfz, hnc, hcm, hcs, htake⟩ : ∃ g cap cur fz, v1 = .slice (some ⟨g, 0, none⟩) l.length cap ∧ 0 ≤ g ∧ w.heap[g]? = some (.cells cur 5 fz) ∧ fz.2 ≤ l.length * 1 ∧ l.length ≤ cap ∧ cap ≤ maxLen ∧ cur.size = cap * 1 ∧ cur.toList.take (l.length * 1) = Lib.byteCells l := by
    rcases hown.2 with ⟨_, hz⟩ | ⟨g, cap, cur, fz, hv, r⟩
    · exact absurd hz hl0
    · exact ⟨g, cap, cur, fz, hv, r⟩
   have hb' : w.drew.heap[b]? = some (.cells #[p, .slice (some ⟨g, 0, none⟩) l.length cap] 75 (0, 0)) := h3
   have c1 : w.drew.cell? ⟨b, 1, none⟩ = some (.slice (some ⟨g, 0, none⟩) l.length cap) := by rw [Lib.cell_of_heap hb']; rfl
   have hSD : (Builtin.unsafeSliceData_ #[73] 123 #[.slice (some ⟨g, 0, none⟩) l.length cap]).run Tryz.prog w.drew = .ok (.pointer (some ⟨g, 0, none⟩)) w.drew :=
    Lib.run_unsafeSliceData_row _ _ _ _ _ _ (by omega)
   have hUS : (Builtin.unsafeString_ #[123, 3] 9 #[.pointer (some ⟨g, 0, none⟩), .int .i64 l.length]).run Tryz.prog w.drew = .ok (.string ⟨l.toArray⟩) (w.drew.freeze ⟨g, 0, none⟩ l.length) := by
    refine Lib.run_unsafeString_row w.drew 123 3 9 5 Tryz.underlying123 (by kernel_rfl) g cur.size (by have hg' : w.drew.heap[g]? = some (.cells cur 5 fz) := hg; simp [World.shape?, hg']) l h0 (by omega) (by unfold maxLen at hcm; omega) ?_
    intro j x hx
    have := hown.cells (g := g) rfl j (.int .u8 x.toNat) (by simp [Lib.byteCells, hx])
    exact this
   have hgb : g ≠ b := fun e => hne (by simp [Value.ownBlock, e])
   have hgf : g ∈ fs := h5 g rfl
   have hkeep : BldR b l fs (w.drew.freeze ⟨g, 0, none⟩ l.length) := by
    have hF := (hA.drew).froze (g := g) (cap := cap) (by rw [Lib.byteCells_length]; exact c1)
    rw [Lib.byteCells_length] at hF
    refine ⟨h1, fun x hx => by rw [freeze_size]; exact h2 x hx, p, _, hp, hF, ?_, h5, h6⟩
    rw [freeze_other _ _ _ _ (fun e => hgb e.symm)]
    exact h3
   have hf : Fr fs w (w.drew.freeze ⟨g, 0, none⟩ l.length) := fr_freeze (Fr.of_below (Below.drew (Below.refl _ w))) g _ hgf
   have HD := Lib.hid (And.intro hkeep hf)
   clear h h1 h2 hp hA h3 h5 h6 a2 hown hne hkeep hf hg hfz hnc hcm hcs htake hgb hgf hb' hl0
   go_enter Tryz.func37, Tryz.ntmps37
   go_wp2_with fail
   go_region_with fail
   all_goals
    go_wp2_with fail
    go_ret
    exact ⟨rfl, HD.out⟩
theorem lenF_any (b : Nat) (l : List UInt8) (fs : List Nat) (w : World) (h : BldR b l fs w) :
 Calls Tryz.prog 39 #[.pointer (some ⟨b, 0, none⟩)] w fun e w' => e = .returned (.int .i64 l.length) ∧ w' = w := by
 obtain ⟨h1, h2, p, v, hp, hA, h3, h5, h6⟩ := h
 have hB : Lib.IsBuilderF 75 5 0 b (Lib.byteCells l) w := by
  rcases hp with rfl | rfl
  · exact .inl hA
  · exact .inr hA
 refine (Tryz.Builder_Len_f 0 b _ w hB).mono ?_
 rintro e w' ⟨rfl, rfl⟩
 exact ⟨by rw [byteCells_length], rfl⟩
end Go.Proofs.YtoglloafpnopaaaGreat
