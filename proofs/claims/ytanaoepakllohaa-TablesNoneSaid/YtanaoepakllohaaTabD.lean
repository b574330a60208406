/- The blocks of a table, in memory; parted. -/
import Derived.Test.YtanaoepakllohaaTabC
import Derived.Test.YtanaoepakllohaaTabB
import Derived.Test.YtanaoepakllohaaTabA
namespace Go.Proofs.Ytanaoepakllohaa
set_option maxRecDepth 16000
open Go.RowKit Spoor Go.Shelf
set_option linter.unusedVariables false
attribute [local go_sem] Oper.semAt_some

/-- blocks as cells: each one's key, and its slice -/
def bkRow : List (List Ce) → List Value → List Value
  | g :: gs, v :: vs => .string ⟨(keyG g).toArray⟩ :: v :: bkRow gs vs
  | _, _ => []
theorem bkRow_snoc {g : List Ce} {v : Value} : ∀ {gs : List (List Ce)} {vs : List Value}, vs.length = gs.length → bkRow (gs ++ [g]) (vs ++ [v]) = bkRow gs vs ++ [.string ⟨(keyG g).toArray⟩, v]
  | [], [], _ => rfl
  | [], _ :: _, h => by simp at h
  | _ :: _, [], h => by simp at h
  | a :: gs, b :: vs, h => by
    show _ :: _ :: bkRow (gs ++ [g]) (vs ++ [v]) = _
    rw [bkRow_snoc (by simpa using h)]
    rfl
theorem bkRow_at : ∀ {gs : List (List Ce)} {vs : List Value}, vs.length = gs.length → ∀ i, i < gs.length → (bkRow gs vs)[i * 2]? = some (.string ⟨(keyG (gs.getD i [])).toArray⟩) ∧ (bkRow gs vs)[i * 2 + 1]? = some (vs.getD i undef)
  | [], [], _, i, hi => by simp at hi
  | [], _ :: _, h, _, _ => by simp at h
  | _ :: _, [], h, _, _ => by simp at h
  | a :: gs, b :: vs, h, 0, hi => ⟨rfl, rfl⟩
  | a :: gs, b :: vs, h, i + 1, hi => by
    obtain ⟨h1, h2⟩ := bkRow_at (gs := gs) (vs := vs) (by simpa using h) i (by simpa using hi)
    rw [show (i + 1) * 2 = i * 2 + 1 + 1 by omega]
    exact ⟨h1, h2⟩
def SlG (lo : Nat) (vs : List Value) (gs : List (List Ce)) (W : World) : Prop := vs.length = gs.length ∧ ∀ i, i < gs.length → ∃ b, lo ≤ b ∧ PageAt (vs.getD i undef) (gs.getD i []) b W
theorem SlG.nil (lo : Nat) (W : World) : SlG lo [] [] W := ⟨rfl, fun i hi => by simp at hi⟩
theorem PageAt.kept {s : Value} {g : List Ce} {b : Nat} {W W' : World} (h : PageAt s g b W) (hk : ∀ cur : Array Value, W.heap[b]? = some (.cells cur 36 (0, 0)) → W'.heap[b]? = W.heap[b]?) : PageAt s g b W' := by
  obtain ⟨cap, cur, e1, e2, e3, e4, e5, e6⟩ := h
  exact ⟨cap, cur, e1, e2, e3, (hk cur e4).trans e4, e5, e6⟩
theorem SlG.kept {lo : Nat} {vs : List Value} {gs : List (List Ce)} {W W' : World} (h : SlG lo vs gs W) (hk : ∀ (b : Nat) (cur : Array Value), W.heap[b]? = some (.cells cur 36 (0, 0)) → W'.heap[b]? = W.heap[b]?) : SlG lo vs gs W' :=
  ⟨h.1, fun i hi => by obtain ⟨b, hl, hb⟩ := h.2 i hi; exact ⟨b, hl, hb.kept (hk b)⟩⟩
theorem SlG.later {lo : Nat} {vs : List Value} {gs : List (List Ce)} {W W' : World} (h : SlG lo vs gs W) (hb : Below W.heap.size W W') : SlG lo vs gs W' := h.kept fun b cur hc => hb.block b (Array.getElem?_eq_some_iff.1 hc).1
theorem SlG.snoc {lo : Nat} {vs : List Value} {gs : List (List Ce)} {W : World} {s : Value} {g : List Ce} {b : Nat} (h : SlG lo vs gs W) (hl : lo ≤ b) (hP : PageAt s g b W) : SlG lo (vs ++ [s]) (gs ++ [g]) W := by
  refine ⟨by simp [h.1], fun i hi => ?_⟩
  rw [List.length_append, List.length_singleton] at hi
  by_cases hlt : i < gs.length
  · obtain ⟨b', hl', hb'⟩ := h.2 i hlt
    refine ⟨b', hl', ?_⟩
    have e1 : (vs ++ [s]).getD i undef = vs.getD i undef := by simp [List.getD, List.getElem?_append_left (show i < vs.length by rw [h.1]; exact hlt)]
    have e2 : (gs ++ [g]).getD i [] = gs.getD i [] := by simp [List.getD, List.getElem?_append_left hlt]
    rw [e1, e2]
    exact hb'
  · obtain rfl : i = gs.length := by omega
    refine ⟨b, hl, ?_⟩
    have e1 : (vs ++ [s]).getD gs.length undef = s := by rw [← h.1]; simp [List.getD]
    have e2 : (gs ++ [g]).getD gs.length [] = g := by simp [List.getD]
    rw [e1, e2]
    exact hP
theorem page_own {w : World} {base : Nat} {v : Value} {l : List Ce} (h : w.ownsRow base 36 3 v l.length (rowOf l)) (h0 : 0 < l.length) : ∃ b, PageAt v l b w ∧ base ≤ b := by
  rcases h.2 with ⟨_, e⟩ | ⟨g, cap, cur, rfl, hb, hg, h1, h2, h3, h4⟩
  · omega
  · exact ⟨g, ⟨cap, cur, rfl, h1, h2, hg, by omega, h4⟩, hb⟩
/-- the blocks of a table, to be read -/
def BksAt (lo : Nat) (v : Value) (gs : List (List Ce)) (w : World) : Prop := ∃ A cap, v = .slice A gs.length cap ∧ gs.length ≤ cap ∧ cap ≤ maxLen ∧ (gs.length = 0 → (A = none ∧ cap = 0) ∨ ∃ g, A = some ⟨g, 0, none⟩) ∧ (0 < gs.length → ∃ g, A = some ⟨g, 0, none⟩ ∧ lo ≤ g ∧ g < w.heap.size ∧ ∀ i, i < gs.length →
  w.cell? ⟨g, i * 2, none⟩ = some (.string ⟨(keyG (gs.getD i [])).toArray⟩) ∧ ∃ s b, w.cell? ⟨g, i * 2 + 1, none⟩ = some s ∧ lo ≤ b ∧ PageAt s (gs.getD i []) b w)
theorem BksAt.same {lo : Nat} {v : Value} {gs : List (List Ce)} {w w' : World} (h : BksAt lo v gs w) (hk : ∀ k, lo ≤ k → k < w.heap.size → w'.heap[k]? = w.heap[k]?) (hs : w.heap.size ≤ w'.heap.size) : BksAt lo v gs w' := by
  obtain ⟨A, cap, e, h1, h2, hz, h3⟩ := h
  refine ⟨A, cap, e, h1, h2, hz, fun h0 => ?_⟩
  obtain ⟨g, e2, hl, hg, hc⟩ := h3 h0
  refine ⟨g, e2, hl, Nat.lt_of_lt_of_le hg hs, fun i hi => ?_⟩
  obtain ⟨c1, s, b, c2, c3, c4⟩ := hc i hi
  have hk1 := hk g hl hg
  exact ⟨(World.cell?_of_block (a := ⟨g, i * 2, none⟩) hk1).trans c1, s, b, (World.cell?_of_block (a := ⟨g, i * 2 + 1, none⟩) hk1).trans c2, c3, c4.kept fun cur hcur => hk b c3 (Array.getElem?_eq_some_iff.1 hcur).1⟩
theorem BksAt.later {lo : Nat} {v : Value} {gs : List (List Ce)} {w w' : World} (h : BksAt lo v gs w) (hb : Below w.heap.size w w') : BksAt lo v gs w' := h.same (fun k _ hk => hb.block k hk) hb.size
theorem BksAt.of {lo : Nat} {v : Value} {gs : List (List Ce)} {vs : List Value} {w : World} {base : Nat} (own : w.ownsRow base 70 2 v gs.length (bkRow gs vs)) (hlo : lo ≤ base) (h : SlG lo vs gs w) : BksAt lo v gs w := by
  rcases own.2 with ⟨rfl, h0⟩ | ⟨g, cap, cur, rfl, hb, hg, h1, h2, h3, h4⟩
  · exact ⟨none, 0, by rw [h0], by omega, by unfold maxLen; omega, fun _ => .inl ⟨rfl, rfl⟩, fun h => by omega⟩
  · refine ⟨_, cap, rfl, h1, h2, fun _ => .inr ⟨g, rfl⟩, fun h0 => ⟨g, rfl, Nat.le_trans hlo hb, (Array.getElem?_eq_some_iff.1 hg).1, fun i hi => ?_⟩⟩
    obtain ⟨a1, a2⟩ := bkRow_at h.1 i hi
    obtain ⟨b, hlb, hP⟩ := h.2 i hi
    have key : ∀ j u, j < gs.length * 2 → (bkRow gs vs)[j]? = some u → w.cell? ⟨g, j, none⟩ = some u := by
      intro j u hj hu
      rw [← h4, List.getElem?_take, if_pos hj] at hu
      simp [World.cell?, hg]
      rw [← Array.getElem?_toList]
      exact hu
    exact ⟨key _ _ (by omega) a1, _, b, key _ _ (by omega) a2, hlb, hP⟩
theorem info_block : (Try.prog.info? 70).map (fun i => (i.zero, i.size, i.bytes)) = some (some (.agg #[.string ⟨#[]⟩, .slice none 0 0]), 2, 40) := by kernel_rfl
theorem bkRow_one : ∀ {gs : List (List Ce)} {vs : List Value}, (∀ v ∈ vs, v.oneCell' = true) → ∀ u ∈ bkRow gs vs, u.oneCell' = true
  | [], _, _, u, h => by simp [bkRow] at h
  | _ :: _, [], _, u, h => by simp [bkRow] at h
  | a :: gs, b :: vs, hv, u, h => by
    rcases List.mem_cons.1 h with rfl | h
    · rfl
    · rcases List.mem_cons.1 h with rfl | h
      · exact hv _ (by simp)
      · exact bkRow_one (fun v hm => hv v (by simp [hm])) u h
/-- a block more -/
theorem bk_append {lo base : Nat} {v : Value} {gs : List (List Ce)} {vs : List Value} {W : World} (own : W.ownsRow base 70 2 v gs.length (bkRow gs vs)) (hsl : SlG lo vs gs W) (hb : base ≤ W.heap.size) (g : List Ce) {s : Value} {b : Nat} (hlb : lo ≤ b) (hP : PageAt s g b W) (X : Nat)
    (hX : W.heap[X]? = some (.cells #[.string ⟨(keyG g).toArray⟩, s] 70 (0, 0))) (hn : gs.length ≤ 1000000) :
    ∃ v' w', (Builtin.append_ #[55, 55] 55 #[v, .slice (some ⟨X, 0, none⟩) 1 1]).run Try.prog W = .ok v' w' ∧ w'.ownsRow base 70 2 v' (gs ++ [g]).length (bkRow (gs ++ [g]) (vs ++ [s])) ∧ SlG lo (vs ++ [s]) (gs ++ [g]) w' ∧ W.grownBy w' v.ownBlock ∧ (∃ g' c', v' = .slice (some ⟨g', 0, none⟩) (gs.length + 1) c') := by
  obtain ⟨i, hi, hz0, hz1, hz2⟩ := info_one info_block
  obtain ⟨cp, cu, hs, -⟩ := id hP
  obtain ⟨v', w', hrun, r1, r2, r3⟩ := run_append_own (P := Try.prog) W base 55 55 70 i _ 2 40 Try.underlying55 hi hz0 hz1 hz2 rfl (by decide) v gs.length (bkRow gs vs) own ⟨X, 0, none⟩ 1 1 [.string ⟨(keyG g).toArray⟩, s] rfl
    (fun j u hj => by
      match j, hj with
      | 0, hj => simp at hj; subst hj; simp [World.cell?, hX, Addr.add]
      | 1, hj => simp at hj; subst hj; simp [World.cell?, hX, Addr.add]
      | j + 2, hj => simp at hj) (fun u hu => by
      rcases List.mem_cons.1 hu with rfl | hu
      · rfl
      · rw [List.mem_singleton] at hu
        subst hu
        rw [hs]
        rfl) (by unfold maxLen; omega) (by omega) hb
  obtain ⟨g', c', hv'⟩ := ownsRow_succ r1
  refine ⟨v', w', hrun, ?_, ?_, r2, g', c', hv'⟩
  · rw [List.length_append, bkRow_snoc hsl.1]
    exact r1
  · refine (hsl.snoc hlb hP).kept fun k cur hc => r2.block k (Array.getElem?_eq_some_iff.1 hc).1 fun e => ?_
    exact own_not own hc (fun cur' e' => by cases e') e.symm
/-- blocks that are being made, and the box in which their slice lies -/
def PtAt (q n₁ : Nat) (gs : List (List Ce)) (W : World) : Prop :=
  ∃ v vs, Boxed W q 55 v ∧ W.ownsRow n₁ 70 2 v gs.length (bkRow gs vs) ∧ SlG n₁ vs gs W ∧ q < n₁ ∧ n₁ ≤ W.heap.size
theorem PtAt.kept {q n₁ : Nat} {gs : List (List Ce)} {W W' : World} {row : Option Nat} (h : PtAt q n₁ gs W) (hg : W.grownBy W' row) (hr : ∀ r, row = some r → ∃ o : Obj, W.heap[r]? = some o ∧ o.isCells = false) : PtAt q n₁ gs W' := by
  obtain ⟨v, vs, h1, h2, h3, h4, h5⟩ := h
  have key : ∀ (r : Nat) (cur : Array Value) (t : TypeId), W.heap[r]? = some (.cells cur t (0, 0)) → W'.heap[r]? = W.heap[r]? := fun r cur t hc => hg.block r (Array.getElem?_eq_some_iff.1 hc).1 fun e => by
    obtain ⟨o, ho, hn⟩ := hr r e.symm
    rw [hc] at ho
    cases ho
    cases hn
  refine ⟨v, vs, (key _ _ _ h1).trans h1, h2.kept hg ?_, h3.kept fun b cur hc => key b cur _ hc, h4, Nat.le_trans h5 hg.size⟩
  cases row with
  | none =>
    rcases hv : v.ownBlock with _ | r
    · exact .inl rfl
    · exact .inr (by simp)
  | some r =>
    obtain ⟨o, ho, hn⟩ := hr r rfl
    exact .inr (own_not h2 ho fun cur e => by rw [e] at hn; cases hn)
/-- a block more -/
theorem pt_step {q n₁ : Nat} {gs : List (List Ce)} {W : World} (h : PtAt q n₁ gs W) (hn : gs.length ≤ 1000000) :
    ∃ v, Boxed W q 55 v ∧ q < n₁ ∧ n₁ ≤ W.heap.size ∧
      ∀ (g : List Ce) (w2 : World) (b' m cap' : Nat), Below W.heap.size W w2 → W.heap.size ≤ b' → PageAt (.slice (some ⟨b', 0, none⟩) m cap') g b' w2 →
        ∃ g' c' w3, ((Builtin.append_ #[55, 55] 55 #[v, .slice (some ⟨w2.heap.size, 0, none⟩) 1 1]).run Try.prog (w2.alloc (.cells #[.string ⟨(keyG g).toArray⟩, .slice (some ⟨b', 0, none⟩) m cap'] 70)) = .ok (.slice (some ⟨g', 0, none⟩) (gs.length + 1) c') w3) ∧
          Boxed w3 q 55 v ∧ (∀ k, k < n₁ → w3.heap[k]? = W.heap[k]?) ∧
          PtAt q n₁ (gs ++ [g]) (w3.setCell ⟨q, 0, none⟩ (.slice (some ⟨g', 0, none⟩) (gs.length + 1) c')) ∧ KeepsOthers W (w3.setCell ⟨q, 0, none⟩ (.slice (some ⟨g', 0, none⟩) (gs.length + 1) c')) ∧ (∀ k, k < n₁ → k ≠ q → (w3.setCell ⟨q, 0, none⟩ (.slice (some ⟨g', 0, none⟩) (gs.length + 1) c')).heap[k]? = W.heap[k]?) ∧ (∀ B, B ≤ q → Below B W (w3.setCell ⟨q, 0, none⟩ (.slice (some ⟨g', 0, none⟩) (gs.length + 1) c'))) := by
  obtain ⟨v, vs, h1, h2, h3, h4, h5⟩ := h
  refine ⟨v, h1, h4, h5, fun g w2 b' m cap' hb hb' hP => ?_⟩
  obtain ⟨X, hX⟩ : ∃ X, (Obj.cells #[.string ⟨(keyG g).toArray⟩, .slice (some ⟨b', 0, none⟩) m cap'] 70 (0, 0)) = X := ⟨_, rfl⟩
  have hbX : Below W.heap.size W (w2.alloc X) := hb.alloc hb.size X
  have hsz := hb.size
  have hown := own_lat h2 hbX
  have hnew : (w2.alloc X).heap[w2.heap.size]? = some X := heap_alloc_new w2 X
  have hP2 : PageAt (.slice (some ⟨b', 0, none⟩) m cap') g b' (w2.alloc X) := hP.kept fun cur hc => Below.heap_alloc w2 X b' (Array.getElem?_eq_some_iff.1 hc).1
  obtain ⟨v', w3, hrun, r1, r4, r2, g', c', hv'⟩ := bk_append hown (h3.later hbX) (by simp; omega) g (by omega) hP2 w2.heap.size (by rw [hnew, hX]) hn
  subst hv'
  have low : ∀ k, k < n₁ → w3.heap[k]? = W.heap[k]? := fun k hk => by
    refine (r2.block k (by simp; omega) fun e => ?_).trans (hbX.block k (by omega))
    rcases hown.2 with ⟨rfl, _⟩ | ⟨g, cap, cur, rfl, hgb, _⟩
    · simp [Value.ownBlock] at e
    · have e2 : k = g := by simpa [Value.ownBlock] using e
      omega
  have hq3 : Boxed w3 q 55 v := (low q h4).trans h1
  have hset : ∀ k, k ≠ q → (w3.setCell ⟨q, 0, none⟩ (.slice (some ⟨g', 0, none⟩) (gs.length + 1) c')).heap[k]? = w3.heap[k]? := fun k hk => Below.heap_setCell w3 ⟨q, 0, none⟩ _ k hk
  refine ⟨g', c', w3, hX ▸ hrun, hq3, low, ⟨_, vs ++ [.slice (some ⟨b', 0, none⟩) m cap'], hq3.set _, ?_, ?_, h4, ?_⟩, ?_, fun k hk1 hk2 => (hset k hk2).trans (low k hk1), fun B hB => ?_⟩
  · refine own_same r1 fun g hg => hset g ?_
    rintro rfl
    rcases r1.2 with ⟨h, _⟩ | ⟨g2, cap, cur, h, hgb, _⟩
    · cases h
    · rw [h] at hg
      have e2 : g2 = g := by simpa [Value.ownBlock] using hg
      omega
  · refine r4.kept fun b cur hc => hset b ?_
    rintro rfl
    rw [show w3.heap[b]? = _ from hq3] at hc
    cases hc
  · rw [World.size_setCell]
    have := r2.size
    have e : (w2.alloc X).heap.size = w2.heap.size + 1 := by simp
    omega
  · have k1 : KeepsOthers W (w2.alloc X) := ⟨hbX.size, fun k o hk _ => (hbX.block k (Array.getElem?_eq_some_iff.1 hk).1).trans hk⟩
    refine (k1.trans (KeepsOthers.of_grownBy r2 fun j o ej hj => ?_)).trans (KeepsOthers.setCell _ _ _)
    rcases hown.2 with ⟨rfl, _⟩ | ⟨g2, cap, cur, rfl, _, hgb, _⟩
    · simp [Value.ownBlock] at ej
    · have e2 : g2 = j := by simpa [Value.ownBlock] using ej
      rw [← e2, hgb] at hj
      cases hj
      rfl
  · have hbB : Below B W (w2.alloc X) := hbX.mono (by omega)
    refine below_set (hbB.grown r2 (by simp; omega) fun k ek => ?_) hB 0 _
    rcases hown.2 with ⟨rfl, _⟩ | ⟨g2, cap, cur, rfl, hgb, _⟩
    · simp [Value.ownBlock] at ek
    · have e2 : g2 = k := by simpa [Value.ownBlock] using ek
      omega
def chOf (l : List Ce) (i : Nat) : List Ce := (l.drop (i * 4)).take (min 4 (l.length - i * 4))
theorem chOf_fours (l : List Ce) (K : Nat) (h1 : l.length ≤ K * 4) (h2 : K * 4 < l.length + 4) : (List.range K).map (chOf l) = fours l := by
  have e : (l.length + 3) / 4 = K := by omega
  apply List.ext_getElem
  · rw [List.length_map, List.length_range, fours_length, e]
  · intro i hi1 hi2
    rw [List.length_map, List.length_range] at hi1
    have h3 := fours_get l i (by omega)
    have h4 : (fours l)[i] = (fours l).getD i [] := by simp [List.getD, hi2]
    rw [List.getElem_map, List.getElem_range, h4, h3]
    unfold chOf
    by_cases h5 : 4 ≤ l.length - i * 4
    · rw [Nat.min_eq_left h5]
    · rw [Nat.min_eq_right (by omega), List.take_of_length_le (by rw [List.length_drop]; exact Nat.le_refl _), List.take_of_length_le (by rw [List.length_drop]; omega)]
end Go.Proofs.Ytanaoepakllohaa
