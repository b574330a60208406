/- Plain facts, no program in sight: rows in a heap. Plain facts, no program in sight: what merged rows come to. Plain facts, no program in sight: two memories' cells, merged. -/
import Derived.Test.YtpcapifjbhaeeaaMem1
namespace Spoor
open Go

/-- what is left of a row, and its place -/
abbrev Rw := List Ce × Nat
def hdC (r : Rw) : Ce := r.1.headD Ce.zero
def eqC (a b : Ce) : Bool := a.k == b.k && decide (a.q = b.q)
def rless (a b : Rw) : Bool := aheadC (hdC a) (hdC b) || (eqC (hdC a) (hdC b) && decide (a.2 < b.2))
theorem ce_tri (a b : Ce) : (aheadC a b = true ∧ aheadC b a = false ∧ eqC a b = false ∧ eqC b a = false) ∨ (aheadC a b = false ∧ aheadC b a = false ∧ eqC a b = true ∧ eqC b a = true) ∨ (aheadC a b = false ∧ aheadC b a = true ∧ eqC a b = false ∧ eqC b a = false) := by
  unfold aheadC eqC
  rcases bl_cases a.k b.k with ⟨h1, h2, h3, h4⟩ | ⟨h1, h2, h3⟩ | ⟨h1, h2, h3, h4⟩
  · left; simp [h1, h2, h3, h4]
  · rw [h3]
    have h5 : Op.bytesLess b.k b.k = false := bl_irrefl _
    simp only [h5, Bool.false_or, beq_self_eq_true, Bool.true_and]
    by_cases e1 : b.q < a.q
    · left; refine ⟨?_, ?_, ?_, ?_⟩ <;> simp <;> omega
    · by_cases e2 : a.q < b.q
      · right; right; refine ⟨?_, ?_, ?_, ?_⟩ <;> simp <;> omega
      · right; left; refine ⟨?_, ?_, ?_, ?_⟩ <;> simp <;> omega
  · right; right; simp [h1, h2, h3, h4]
theorem eqC_ahead {a b c : Ce} (h : eqC a b = true) : aheadC a c = aheadC b c ∧ aheadC c a = aheadC c b ∧ eqC a c = eqC b c ∧ eqC c a = eqC c b := by
  unfold eqC at h
  rw [Bool.and_eq_true, beq_iff_eq, decide_eq_true_eq] at h
  unfold aheadC eqC
  rw [h.1, h.2]
  exact ⟨rfl, rfl, rfl, rfl⟩
theorem rless_irrefl (a : Rw) : rless a a = false := by
  unfold rless
  rcases ce_tri (hdC a) (hdC a) with ⟨h1, h2, -⟩ | ⟨h1, -, h3, -⟩ | ⟨h1, h2, -⟩
  · rw [h1] at h2; cases h2
  · rw [h1, h3]; simp
  · rw [h1] at h2; cases h2
/-- not behind one that is not behind another: not behind that one -/
theorem rless_le {a b c : Rw} (h1 : rless b a = false) (h2 : rless c b = false) : rless c a = false := by
  unfold rless at *
  simp only [Bool.or_eq_false_iff, Bool.and_eq_false_iff, decide_eq_false_iff_not] at *
  obtain ⟨p1, p2⟩ := h1
  obtain ⟨q1, q2⟩ := h2
  rcases ce_tri (hdC a) (hdC b) with ⟨e1, e2, e3, e4⟩ | ⟨e1, e2, e3, e4⟩ | ⟨e1, e2, e3, e4⟩
  · rcases ce_tri (hdC b) (hdC c) with ⟨f1, f2, f3, f4⟩ | ⟨f1, f2, f3, f4⟩ | ⟨f1, f2, f3, f4⟩
    · have t := ahead_trans e1 f1
      rcases ce_tri (hdC a) (hdC c) with ⟨g1, g2, g3, g4⟩ | ⟨g1, g2, g3, g4⟩ | ⟨g1, g2, g3, g4⟩
      · exact ⟨g2, .inl g4⟩
      · rw [g1] at t; cases t
      · rw [g1] at t; cases t
    · have t := (eqC_ahead (c := hdC a) f3)
      rw [e2] at t
      refine ⟨t.1.symm, ?_⟩
      rw [e4] at t
      exact .inl t.2.2.1.symm
    · rw [f2] at q1; cases q1
  · have t := eqC_ahead (c := hdC c) e3
    rw [← t.2.1] at q1
    refine ⟨q1, ?_⟩
    rw [← t.2.2.2] at q2
    rcases q2 with q2 | q2
    · exact .inl q2
    · rcases p2 with p2 | p2
      · rw [e4] at p2; cases p2
      · exact .inr (by omega)
  · rw [e2] at p1; cases p1
theorem rless_asymm {a b : Rw} (h : rless a b = true) : rless b a = false := by
  unfold rless at *
  rcases ce_tri (hdC a) (hdC b) with ⟨e1, e2, e3, e4⟩ | ⟨e1, e2, e3, e4⟩ | ⟨e1, e2, e3, e4⟩
  · rw [e2, e4]; rfl
  · rw [e1, e3] at h
    rw [e2, e4]
    simp only [Bool.false_or, Bool.true_and, decide_eq_true_eq] at h
    simp only [Bool.false_or, Bool.true_and, decide_eq_false_iff_not]
    omega
  · rw [e1, e3] at h; cases h
theorem rless_lt_le {a b c : Rw} (h1 : rless a b = true) (h2 : rless c b = false) : rless c a = false := rless_le (rless_asymm h1) h2

/-! swaps -/
def rz : Rw := ([], 0)
def swapR (H : List Rw) (i j : Nat) : List Rw := (H.set i (H.getD j rz)).set j (H.getD i rz)
theorem swapR_length (H : List Rw) (i j : Nat) : (swapR H i j).length = H.length := by simp [swapR]
theorem swapR_i {H : List Rw} {i j : Nat} (hi : i < H.length) (hj : j < H.length) : (swapR H i j).getD i rz = H.getD j rz := by
  unfold swapR
  by_cases e : i = j
  · subst e; simp [List.getD, hi]
  · simp [List.getD, List.getElem?_set, Ne.symm e, hi]
theorem swapR_j {H : List Rw} {i j : Nat} (hj : j < H.length) : (swapR H i j).getD j rz = H.getD i rz := by
  unfold swapR
  simp [List.getD, hj]
theorem swapR_other {H : List Rw} {i j k : Nat} (h1 : k ≠ i) (h2 : k ≠ j) : (swapR H i j).getD k rz = H.getD k rz := by
  unfold swapR
  simp [List.getD, List.getElem?_set, Ne.symm h1, Ne.symm h2]
theorem swapR_perm {H : List Rw} {i j : Nat} (hi : i < H.length) (hj : j < H.length) : (swapR H i j).Perm H := by
  have h := Array.swap_perm (xs := H.toArray) (i := i) (j := j) (by simpa using hi) (by simpa using hj)
  have e : (H.toArray.swap i j (by simpa using hi) (by simpa using hj)).toList = swapR H i j := by
    unfold swapR
    simp [Array.swap, List.getD, hi, hj]
  have := h.toList
  rw [e] at this
  simpa using this

/-! heaps -/
def par (i : Nat) : Nat := (i - 1) / 2
/-- no row is ahead of the one above it, of the first n, but maybe at j -/
structure UpI (H : List Rw) (j : Nat) : Prop where
  lt : j < H.length
  one : ∀ i, i < H.length → 0 < i → i ≠ j → rless (H.getD i rz) (H.getD (par i) rz) = false
  two : ∀ i, i < H.length → 0 < i → par i = j → 0 < j → rless (H.getD i rz) (H.getD (par j) rz) = false
def HeapR (n : Nat) (H : List Rw) : Prop := ∀ i, i < n → 0 < i → rless (H.getD i rz) (H.getD (par i) rz) = false
theorem par_lt {i : Nat} (h : 0 < i) : par i < i := by unfold par; omega
theorem UpI.done {H : List Rw} {j : Nat} (h : UpI H j) (hj : j = 0 ∨ rless (H.getD j rz) (H.getD (par j) rz) = false) : HeapR H.length H := fun i hi h0 => by
  by_cases e : i = j
  · subst e
    rcases hj with hj | hj
    · omega
    · exact hj
  · exact h.one i hi h0 e
theorem UpI.step {H : List Rw} {j : Nat} (h : UpI H j) (h0 : 0 < j) (hl : rless (H.getD j rz) (H.getD (par j) rz) = true) : UpI (swapR H (par j) j) (par j) := by
  have hp := par_lt h0
  have hj := h.lt
  have hpl : par j < H.length := by omega
  refine ⟨by rw [swapR_length]; exact hpl, fun i hi hi0 hne => ?_, fun i hi hi0 hpi hp0 => ?_⟩
  · rw [swapR_length] at hi
    by_cases e1 : i = j
    · subst e1
      rw [swapR_j hj, swapR_i hpl hj]
      exact rless_asymm hl
    · rw [swapR_other hne e1]
      by_cases e2 : par i = j
      · rw [e2, swapR_j hj]
        exact h.two i hi hi0 e2 h0
      · by_cases e3 : par i = par j
        · rw [e3, swapR_i hpl hj]
          have q := h.one i hi hi0 e1
          rw [e3] at q
          exact rless_lt_le hl q
        · rw [swapR_other e3 e2]
          exact h.one i hi hi0 e1
  · rw [swapR_length] at hi
    have hpp := par_lt hp0
    have e3 : par (par j) ≠ par j := by omega
    have e4 : par (par j) ≠ j := by omega
    rw [swapR_other e3 e4]
    have q := h.one (par j) hpl hp0 (by omega)
    by_cases e1 : i = j
    · subst e1
      rw [swapR_j hj]
      exact q
    · have e2 : i ≠ par j := fun e => by rw [e] at hpi; omega
      rw [swapR_other e2 e1]
      have q2 := h.one i hi hi0 e1
      rw [hpi] at q2
      exact rless_le q q2
/-- a row behind a heap's -/
theorem UpI.snoc {H : List Rw} (h : HeapR H.length H) (r : Rw) : UpI (H ++ [r]) H.length := by
  refine ⟨by simp, fun i hi h0 hne => ?_, fun i hi h0 hp _ => ?_⟩
  · rw [List.length_append, List.length_singleton] at hi
    have hi2 : i < H.length := by omega
    have hp := par_lt h0
    have e1 : (H ++ [r]).getD i rz = H.getD i rz := by simp [List.getD, List.getElem?_append_left hi2]
    have e2 : (H ++ [r]).getD (par i) rz = H.getD (par i) rz := by simp [List.getD, List.getElem?_append_left (show par i < H.length by omega)]
    rw [e1, e2]
    exact h i hi2 h0
  · rw [List.length_append, List.length_singleton] at hi
    have := par_lt h0
    omega
/-- of the first n, no row is ahead of the one above it, but maybe those right below j -/
structure DnI (n : Nat) (H : List Rw) (j : Nat) : Prop where
  lt : n ≤ H.length
  one : ∀ i, i < n → 0 < i → par i ≠ j → rless (H.getD i rz) (H.getD (par i) rz) = false
  two : ∀ i, i < n → 0 < i → par i = j → 0 < j → rless (H.getD i rz) (H.getD (par j) rz) = false
theorem DnI.done {n : Nat} {H : List Rw} {j : Nat} (h : DnI n H j) (hj : ∀ i, i < n → 0 < i → par i = j → rless (H.getD i rz) (H.getD j rz) = false) : HeapR n H := fun i hi h0 => by
  by_cases e : par i = j
  · rw [e]; exact hj i hi h0 e
  · exact h.one i hi h0 e
theorem DnI.step {n : Nat} {H : List Rw} {j c : Nat} (h : DnI n H j) (hj : j < n) (hc : c < n) (h0 : 0 < c) (hp : par c = j) (hl : rless (H.getD c rz) (H.getD j rz) = true) (hm : ∀ i, i < n → 0 < i → par i = j → rless (H.getD i rz) (H.getD c rz) = false) : DnI n (swapR H j c) c := by
  have hn := h.lt
  have hcj := par_lt h0
  rw [hp] at hcj
  refine ⟨by rw [swapR_length]; exact hn, fun i hi hi0 hne => ?_, fun i hi hi0 hpi _ => ?_⟩
  · have hpi := par_lt hi0
    by_cases e1 : i = c
    · subst e1
      rw [hp, swapR_j (by omega), swapR_i (by omega) (by omega)]
      exact rless_asymm hl
    · by_cases e2 : i = j
      · subst e2
        rw [swapR_i (by omega) (by omega), swapR_other (show par i ≠ i by omega) (by omega)]
        exact h.two c hc h0 hp hi0
      · rw [swapR_other e2 e1]
        by_cases e3 : par i = j
        · rw [e3, swapR_i (by omega) (by omega)]
          exact hm i hi hi0 e3
        · rw [swapR_other e3 hne]
          exact h.one i hi hi0 e3
  · have hpi2 := par_lt hi0
    rw [hp, swapR_i (by omega) (by omega), swapR_other (show i ≠ j by omega) (show i ≠ c by omega)]
    have q := h.one i hi hi0 (by omega)
    rw [hpi] at q
    exact q
theorem HeapR.min {n : Nat} {H : List Rw} (h : HeapR n H) : ∀ i, i < n → rless (H.getD i rz) (H.getD 0 rz) = false := by
  intro i
  induction i using Nat.strongRecOn with
  | ind i ih =>
    intro hi
    rcases Nat.eq_zero_or_pos i with e | e
    · subst e; exact rless_irrefl _
    · have hp := par_lt e
      exact rless_le (ih (par i) hp (by omega)) (h i hi e)
/-- the first one to the end: what is ahead of it is a heap but for its root -/
theorem DnI.pop {n : Nat} {H : List Rw} (h : HeapR (n + 1) H) (hn : n < H.length) : DnI n (swapR H 0 n) 0 := by
  refine ⟨by rw [swapR_length]; omega, fun i hi h0 hne => ?_, fun i hi h0 hp h1 => by omega⟩
  have hp := par_lt h0
  rw [swapR_other (by omega) (by omega), swapR_other hne (by omega)]
  exact h i (by omega) h0
/-- the cell that comes first is told, what is left -/
def StepR (H : List Rw) (c : Ce) (H' : List Rw) : Prop := ∃ rest pl T, (T ++ [(c :: rest, pl)]).Perm H ∧ (∀ i, i < H.length → rless (H.getD i rz) (c :: rest, pl) = false) ∧ H'.Perm (if rest = [] then T else T ++ [(rest, pl)])
/-- how many cells are left -/
def cnt (H : List Rw) : Nat := (H.map fun r => r.1.length).sum
theorem cnt_perm {H H' : List Rw} (h : H.Perm H') : cnt H = cnt H' := (h.map _).sum_nat
theorem cnt_app (H G : List Rw) : cnt (H ++ G) = cnt H + cnt G := by simp [cnt]
theorem StepR.cnt {H H' : List Rw} {c : Ce} (h : StepR H c H') : cnt H = cnt H' + 1 := by
  obtain ⟨rest, pl, T, h1, -, h2⟩ := h
  rw [← cnt_perm h1, cnt_perm h2, cnt_app]
  by_cases hr : rest = []
  · rw [if_pos hr, hr]; rfl
  · rw [if_neg hr, cnt_app]
    simp [Spoor.cnt]
    omega
/-- what was told so far, and what is left -/
inductive RunsTo (H : List Rw) : List Ce → List Rw → Prop
  | start : RunsTo H [] H
  | one {pre : List Ce} {H1 H2 : List Rw} {c : Ce} : RunsTo H pre H1 → StepR H1 c H2 → RunsTo H (pre ++ [c]) H2
theorem RunsTo.cnt {H H' : List Rw} {pre : List Ce} (h : RunsTo H pre H') : cnt H = cnt H' + pre.length := by
  induction h with
  | start => rfl
  | one h1 h2 ih => rw [ih, h2.cnt, List.length_append, List.length_singleton]; omega
/-- rows that have cells, with their places -/
def plRows : Nat → List (List Ce) → List Rw
  | _, [] => []
  | i, r :: rs => (if r = [] then [] else [(r, i)]) ++ plRows (i + 1) rs
theorem plRows_snoc (r : List Ce) : ∀ (rs : List (List Ce)) (i : Nat), plRows i (rs ++ [r]) = plRows i rs ++ (if r = [] then [] else [(r, i + rs.length)])
  | [], i => by simp [plRows]
  | a :: rs, i => by
    show _ ++ plRows (i + 1) (rs ++ [r]) = (_ ++ plRows (i + 1) rs) ++ _
    rw [plRows_snoc r rs (i + 1), List.append_assoc, List.length_cons, show i + 1 + rs.length = i + (rs.length + 1) by omega]
theorem plRows_len : ∀ (rs : List (List Ce)) (i : Nat), (plRows i rs).length ≤ rs.length
  | [], i => Nat.le_refl _
  | a :: rs, i => by
    show (_ ++ plRows (i + 1) rs).length ≤ _
    have := plRows_len rs (i + 1)
    rw [List.length_append, List.length_cons]
    split <;> simp <;> omega
end Spoor
namespace Spoor
open Go

/-- a cell and the place of its row -/
abbrev Tc := Ce × Nat
def tless (a b : Tc) : Bool := aheadC a.1 b.1 || (eqC a.1 b.1 && decide (a.2 < b.2))
def tagR (r : Rw) : List Tc := r.1.map fun c => (c, r.2)
def tags (H : List Rw) : List Tc := H.flatMap tagR
def tagsR : Nat → List (List Ce) → List Tc
  | _, [] => []
  | i, r :: rs => (r.map fun c => (c, i)) ++ tagsR (i + 1) rs
theorem tless_rless (a b : Tc) : tless a b = rless ([a.1], a.2) ([b.1], b.2) := rfl
theorem rless_tless (a b : Rw) : rless a b = tless (hdC a, a.2) (hdC b, b.2) := rfl
theorem tless_irrefl (a : Tc) : tless a a = false := rless_irrefl ([a.1], a.2)
theorem tless_le {a b c : Tc} (h1 : tless b a = false) (h2 : tless c b = false) : tless c a = false := rless_le (a := ([a.1], a.2)) (b := ([b.1], b.2)) (c := ([c.1], c.2)) h1 h2
theorem tless_asymm {a b : Tc} (h : tless a b = true) : tless b a = false := rless_asymm (a := ([a.1], a.2)) (b := ([b.1], b.2)) h
theorem ahead_tless {a b : Tc} (h : aheadC a.1 b.1 = true) : tless a b = true := by unfold tless; rw [h]; rfl
theorem tags_plRows : ∀ (R : List (List Ce)) (i : Nat), tags (plRows i R) = tagsR i R
  | [], _ => rfl
  | r :: R, i => by
    show tags ((if r = [] then [] else [(r, i)]) ++ plRows (i + 1) R) = (r.map fun c => (c, i)) ++ tagsR (i + 1) R
    have e : tags ((if r = [] then [] else [(r, i)]) ++ plRows (i + 1) R) = tags (if r = [] then [] else [(r, i)]) ++ tags (plRows (i + 1) R) := List.flatMap_append
    rw [e, tags_plRows R (i + 1)]
    by_cases h : r = []
    · rw [if_pos h, h]; rfl
    · rw [if_neg h]
      show (r.map _ ++ []) ++ _ = _
      rw [List.append_nil]
theorem tags_perm {H G : List Rw} (h : H.Perm G) : (tags H).Perm (tags G) := h.flatMap_right _
/-- rows each of which is sorted, and has cells -/
def RowsOk (H : List Rw) : Prop := ∀ r ∈ H, Rise r.1 ∧ r.1 ≠ []
theorem RowsOk.perm {H G : List Rw} (h : RowsOk H) (p : G.Perm H) : RowsOk G := fun r hr => h r (p.mem_iff.1 hr)
theorem row_ge {r : Rw} (h : Rise r.1) : ∀ x ∈ tagR r, tless x (hdC r, r.2) = false := fun x hx => by
  obtain ⟨l, pl⟩ := r
  obtain ⟨c, hc, rfl⟩ := List.mem_map.1 hx
  cases l with
  | nil => cases hc
  | cons a l =>
    rcases List.mem_cons.1 hc with rfl | hc
    · exact tless_irrefl _
    · exact tless_asymm (ahead_tless (List.rel_of_pairwise_cons h hc))
theorem mem_getD {H : List Rw} {r : Rw} (h : r ∈ H) : ∃ i, i < H.length ∧ H.getD i rz = r := by
  obtain ⟨i, hi, e⟩ := List.getElem_of_mem h
  exact ⟨i, hi, by rw [← e]; simp [List.getD, hi]⟩
theorem StepR.tag {H H' : List Rw} {c : Ce} (h : StepR H c H') (ok : RowsOk H) : ∃ pl, ((c, pl) :: tags H').Perm (tags H) ∧ (∀ x ∈ tags H', tless x (c, pl) = false) ∧ RowsOk H' := by
  obtain ⟨rest, pl, T, h1, h2, h3⟩ := h
  have e1 : (tags H').Perm (tags T ++ tagR (rest, pl)) := by
    refine (tags_perm h3).trans ?_
    by_cases hr : rest = []
    · rw [if_pos hr, hr]
      show (tags T).Perm (tags T ++ [])
      rw [List.append_nil]
    · rw [if_neg hr]
      have : tags (T ++ [(rest, pl)]) = tags T ++ tagR (rest, pl) := by
        show (T ++ [(rest, pl)]).flatMap tagR = _
        rw [List.flatMap_append, List.flatMap_singleton]
        rfl
      rw [this]
  have hT : ∀ r ∈ T, r ∈ H := fun r hr => h1.mem_iff.1 (List.mem_append_left _ hr)
  have hc : (c :: rest, pl) ∈ H := h1.mem_iff.1 (List.mem_append_right _ List.mem_cons_self)
  refine ⟨pl, ?_, fun x hx => ?_, fun r hr => ?_⟩
  · refine List.Perm.trans ?_ (tags_perm h1)
    have e2 : tags (T ++ [(c :: rest, pl)]) = tags T ++ ((c, pl) :: tagR (rest, pl)) := by
      show (T ++ [(c :: rest, pl)]).flatMap tagR = _
      rw [List.flatMap_append, List.flatMap_singleton]
      rfl
    rw [e2]
    exact (List.Perm.cons _ e1).trans List.perm_middle.symm
  · rcases List.mem_append.1 (e1.mem_iff.1 hx) with hx | hx
    · obtain ⟨r, hr, hx⟩ := List.mem_flatMap.1 hx
      obtain ⟨i, hi, e⟩ := mem_getD (hT r hr)
      have g := h2 i hi
      rw [e] at g
      have g2 : tless (hdC r, r.2) (c, pl) = false := g
      exact tless_le g2 (row_ge (ok r (hT r hr)).1 x hx)
    · obtain ⟨d, hd, rfl⟩ := List.mem_map.1 hx
      exact tless_asymm (ahead_tless (List.rel_of_pairwise_cons (ok _ hc).1 hd))
  · have hr2 := h3.mem_iff.1 hr
    by_cases he : rest = []
    · rw [if_pos he] at hr2
      exact ok r (hT r hr2)
    · rw [if_neg he] at hr2
      rcases List.mem_append.1 hr2 with hr2 | hr2
      · exact ok r (hT r hr2)
      · rw [List.mem_singleton.1 hr2]
        exact ⟨(List.pairwise_cons.1 (ok _ hc).1).2, he⟩
theorem RunsTo.tag {H H' : List Rw} {pre : List Ce} (h : RunsTo H pre H') (ok : RowsOk H) : ∃ T : List Tc, T.map (·.1) = pre ∧ (T ++ tags H').Perm (tags H) ∧ T.Pairwise (fun a b => tless b a = false) ∧ (∀ t ∈ T, ∀ x ∈ tags H', tless x t = false) ∧ RowsOk H' := by
  induction h with
  | start => exact ⟨[], rfl, List.Perm.refl _, .nil, (by simp), ok⟩
  | one h1 h2 ih =>
    obtain ⟨T, e, hp, hs, hl, ok1⟩ := ih
    obtain ⟨pl, p2, l2, ok2⟩ := h2.tag ok1
    rename_i c
    have hcm : (c, pl) ∈ tags _ := p2.mem_iff.1 List.mem_cons_self
    refine ⟨T ++ [(c, pl)], by rw [List.map_append, e]; rfl, ?_, ?_, ?_, ok2⟩
    · refine List.Perm.trans ?_ hp
      rw [List.append_assoc]
      exact List.Perm.append_left T p2
    · refine List.pairwise_append.2 ⟨hs, List.pairwise_singleton _ _, fun a ha b hb => ?_⟩
      rw [List.mem_singleton.1 hb]
      exact hl a ha _ hcm
    · intro t ht x hx
      rcases List.mem_append.1 ht with ht | ht
      · exact hl t ht x (p2.mem_iff.1 (List.mem_cons_of_mem _ hx))
      · rw [List.mem_singleton.1 ht]
        exact l2 x hx
/-- cells merged: by order, of like ones the earlier row's first -/
def Merged (R : List (List Ce)) (pre : List Ce) : Prop := ∃ T : List Tc, T.map (·.1) = pre ∧ T.Perm (tagsR 0 R) ∧ T.Pairwise (fun a b => tless a b = true)
theorem tagsR_place : ∀ {R : List (List Ce)} {i : Nat} {t : Tc}, t ∈ tagsR i R → i ≤ t.2
  | [], _, _, h => by cases h
  | r :: R, i, t, h => by
    rcases List.mem_append.1 h with h | h
    · obtain ⟨c, _, rfl⟩ := List.mem_map.1 h
      exact Nat.le_refl _
    · exact Nat.le_of_succ_le (tagsR_place h)
theorem tless_or {a b : Tc} (h : a.2 ≠ b.2) : tless a b = true ∨ tless b a = true := by
  unfold tless
  rcases ce_tri a.1 b.1 with ⟨e1, -⟩ | ⟨-, -, e3, e4⟩ | ⟨-, e2, -⟩
  · exact .inl (by rw [e1]; rfl)
  · rw [e3, e4]
    rcases Nat.lt_or_gt_of_ne h with h | h
    · exact .inl (by simp [h])
    · exact .inr (by simp; exact .inr h)
  · exact .inr (by rw [e2]; rfl)
theorem tagsR_apart : ∀ {R : List (List Ce)} {i : Nat}, (∀ r ∈ R, Rise r) → (tagsR i R).Pairwise (fun a b => tless a b = true ∨ tless b a = true)
  | [], _, _ => .nil
  | r :: R, i, h => by
    refine List.pairwise_append.2 ⟨?_, tagsR_apart fun r hr => h r (List.mem_cons_of_mem _ hr), fun a ha b hb => ?_⟩
    · refine List.pairwise_map.2 ((h r List.mem_cons_self).imp fun h => .inl (ahead_tless h))
    · obtain ⟨c, _, rfl⟩ := List.mem_map.1 ha
      have := tagsR_place hb
      exact tless_or (show i ≠ b.2 by omega)
theorem merged_of {R : List (List Ce)} {H : List Rw} {pre : List Ce} (hR : ∀ r ∈ R, Rise r) (hp : H.Perm (plRows 0 R)) (h : RunsTo H pre []) : Merged R pre := by
  have ok0 : ∀ {R : List (List Ce)} {i : Nat}, (∀ r ∈ R, Rise r) → RowsOk (plRows i R) := by
    intro R
    induction R with
    | nil => intro i _ r hr; cases hr
    | cons a R ih =>
      intro i h r hr
      rcases List.mem_append.1 (show r ∈ (if a = [] then [] else [(a, i)]) ++ plRows (i + 1) R from hr) with hr | hr
      · by_cases e : a = []
        · rw [if_pos e] at hr; cases hr
        · rw [if_neg e] at hr
          rw [List.mem_singleton.1 hr]
          exact ⟨h a List.mem_cons_self, e⟩
      · exact ih (fun r hr => h r (List.mem_cons_of_mem _ hr)) r hr
  obtain ⟨T, e, p, hs, -, -⟩ := h.tag ((ok0 hR).perm hp)
  have p2 : T.Perm (tagsR 0 R) := by
    have p' : (T ++ []).Perm (tags H) := p
    rw [List.append_nil] at p'
    exact p'.trans ((tags_perm hp).trans (by rw [tags_plRows]))
  refine ⟨T, e, p2, ?_⟩
  have ap := (p2.symm.pairwise_iff (R := fun a b => tless a b = true ∨ tless b a = true) (fun h => h.symm)).1 (tagsR_apart hR)
  refine (hs.and ap).imp fun ⟨h1, h2⟩ => ?_
  rcases h2 with h2 | h2
  · exact h2
  · rw [h1] at h2; cases h2

/-! of cells that are alike the first one -/
def ddF (p : Ce → Ce → Bool) : Option Ce → List Ce → List Ce
  | _, [] => []
  | pr, c :: l => (if pr.any (fun d => p d c) then [] else [c]) ++ ddF p (some c) l
theorem ddF_snoc (p : Ce → Ce → Bool) (c : Ce) : ∀ (l : List Ce) (pr : Option Ce), ddF p pr (l ++ [c]) = ddF p pr l ++ (if (l.getLast?.or pr).any (fun d => p d c) then [] else [c])
  | [], pr => by
    show (if pr.any (fun d => p d c) then [] else [c]) ++ [] = _
    rw [List.append_nil]
    rfl
  | a :: l, pr => by
    show _ ++ ddF p (some a) (l ++ [c]) = (_ ++ ddF p (some a) l) ++ _
    rw [ddF_snoc p c l (some a), List.append_assoc, List.getLast?_cons]
    cases l.getLast? <;> rfl
abbrev dd (p : Ce → Ce → Bool) (l : List Ce) : List Ce := ddF p none l
def keyC (a b : Ce) : Bool := decide (a.k = b.k)
theorem dd_snoc (p : Ce → Ce → Bool) (l : List Ce) (c : Ce) : dd p (l ++ [c]) = dd p l ++ (if l.getLast?.any (fun d => p d c) then [] else [c]) := by
  rw [dd, ddF_snoc]
  simp
theorem dd_mem_sub {p : Ce → Ce → Bool} {x : Ce} : ∀ {l : List Ce} {pr : Option Ce}, x ∈ ddF p pr l → x ∈ l
  | [], _, h => h
  | a :: l, pr, h => by
    rcases List.mem_append.1 (show x ∈ (if pr.any (fun d => p d a) then [] else [a]) ++ ddF p (some a) l from h) with h | h
    · split at h
      · cases h
      · rw [List.mem_singleton.1 h]; exact List.mem_cons_self
    · exact List.mem_cons_of_mem _ (dd_mem_sub h)
theorem snoc_ind {α : Type} {P : List α → Prop} (h0 : P []) (h1 : ∀ l a, P l → P (l ++ [a])) (l : List α) : P l := by
  rw [← List.reverse_reverse l]
  induction l.reverse with
  | nil => exact h0
  | cons a l ih => rw [List.reverse_cons]; exact h1 _ _ ih
/-- a likeness that goes along with the order of merged cells -/
structure Like (p : Ce → Ce → Bool) : Prop where
  refl : ∀ a, p a a = true
  sym : ∀ {a b}, p a b = true → p b a = true
  mid : ∀ {a b c : Tc}, tless a b = true → tless b c = true → p a.1 c.1 = true → p b.1 c.1 = true
  eq : ∀ {a b}, eqC a b = true → p a b = true
theorem dd_last {p : Ce → Ce → Bool} (hp : Like p) {T : List Tc} {z : Tc} (hs : (T ++ [z]).Pairwise (fun a b => tless a b = true)) : ((T.map (·.1)).getLast?.any (fun d => p d z.1)) = true ↔ ∃ u ∈ T, p u.1 z.1 = true := by
  obtain ⟨h1, -, h3⟩ := List.pairwise_append.1 hs
  constructor
  · intro h
    rw [List.getLast?_map] at h
    cases e : T.getLast? with
    | none => rw [e] at h; cases h
    | some t =>
      rw [e] at h
      exact ⟨t, List.mem_of_getLast? e, h⟩
  · rintro ⟨u, hu, he⟩
    rw [List.getLast?_map]
    have hne : T ≠ [] := fun e => by rw [e] at hu; cases hu
    obtain ⟨T', t, rfl⟩ : ∃ T' t, T = T' ++ [t] := ⟨T.dropLast, T.getLast hne, (List.dropLast_concat_getLast hne).symm⟩
    rw [List.getLast?_append]
    show p t.1 z.1 = true
    rcases List.mem_append.1 hu with hu | hu
    · exact hp.mid ((List.pairwise_append.1 h1).2.2 u hu t (by simp)) (h3 t (by simp) z (by simp)) he
    · rw [← List.mem_singleton.1 hu]; exact he
theorem dd_mem {p : Ce → Ce → Bool} (hp : Like p) {x : Ce} (T : List Tc) : T.Pairwise (fun a b => tless a b = true) → (x ∈ dd p (T.map (·.1)) ↔ ∃ t ∈ T, t.1 = x ∧ ∀ u ∈ T, p u.1 x = true → tless u t = false) := by
  induction T using snoc_ind with
  | h0 => intro _; constructor <;> intro h <;> simp [dd, ddF] at h
  | h1 T z ih =>
    intro hs
    obtain ⟨h1, -, h3⟩ := List.pairwise_append.1 hs
    have ih := ih h1
    have hl := dd_last hp hs
    rw [List.map_append, List.map_singleton, dd_snoc, List.mem_append, ih]
    constructor
    · rintro (⟨t, ht, e, hb⟩ | h)
      · refine ⟨t, List.mem_append_left _ ht, e, fun u hu hpu => ?_⟩
        rcases List.mem_append.1 hu with hu | hu
        · exact hb u hu hpu
        · rw [List.mem_singleton.1 hu]
          exact tless_asymm (h3 t ht z (by simp))
      · split at h
        · cases h
        · rename_i hn
          obtain rfl := List.mem_singleton.1 h
          refine ⟨z, by simp, rfl, fun u hu hpu => ?_⟩
          rcases List.mem_append.1 hu with hu | hu
          · exact absurd (hl.2 ⟨u, hu, hpu⟩) hn
          · rw [List.mem_singleton.1 hu]; exact tless_irrefl _
    · rintro ⟨t, ht, e, hb⟩
      rcases List.mem_append.1 ht with ht | ht
      · exact .inl ⟨t, ht, e, fun u hu hpu => hb u (List.mem_append_left _ hu) hpu⟩
      · right
        obtain rfl := List.mem_singleton.1 ht
        rw [if_neg]
        · rw [e]; simp
        · intro h
          obtain ⟨u, hu, hpu⟩ := hl.1 h
          have := hb u (List.mem_append_left _ hu) (by rw [← e]; exact hpu)
          rw [h3 u hu t (by simp)] at this
          cases this
theorem dd_pair {p : Ce → Ce → Bool} (hp : Like p) (T : List Tc) : T.Pairwise (fun a b => tless a b = true) → (dd p (T.map (·.1))).Pairwise (fun a b => aheadC a b = true ∧ p a b = false) := by
  induction T using snoc_ind with
  | h0 => intro _; exact .nil
  | h1 T z ih =>
    intro hs
    obtain ⟨h1, -, h3⟩ := List.pairwise_append.1 hs
    have hl := dd_last hp hs
    rw [List.map_append, List.map_singleton, dd_snoc]
    by_cases hn : ((T.map (·.1)).getLast?.any (fun d => p d z.1)) = true
    · rw [if_pos hn, List.append_nil]; exact ih h1
    · rw [if_neg hn]
      refine List.pairwise_append.2 ⟨ih h1, List.pairwise_singleton _ _, fun a ha b hb => ?_⟩
      rw [List.mem_singleton.1 hb]
      obtain ⟨u, hu, rfl⟩ := List.mem_map.1 (dd_mem_sub ha)
      have hpu : p u.1 z.1 = false := by
        cases e : p u.1 z.1 with
        | false => rfl
        | true => exact absurd (hl.2 ⟨u, hu, e⟩) hn
      refine ⟨?_, hpu⟩
      have hlt := h3 u hu z (by simp)
      rcases ce_tri u.1 z.1 with ⟨e1, -⟩ | ⟨-, -, e3, -⟩ | ⟨e1, -, e3, -⟩
      · exact e1
      · rw [hp.eq e3] at hpu; cases hpu
      · unfold tless at hlt
        rw [e1, e3] at hlt
        cases hlt
theorem tless_key {a b : Tc} (h : tless a b = true) : Op.bytesLess b.1.k a.1.k = false := by
  unfold tless at h
  rcases (Bool.or_eq_true _ _).mp h with h | h
  · unfold aheadC at h
    rcases bl_cases a.1.k b.1.k with ⟨e1, e2, _⟩ | ⟨e1, e2, e3⟩ | ⟨e1, e2, e3, _⟩
    · exact e2
    · exact e2
    · rw [e1] at h
      have e4 : (a.1.k == b.1.k) = false := by simp [e3]
      rw [e4] at h
      cases h
  · have h1 := (Bool.and_eq_true _ _).mp h
    unfold eqC at h1
    have h2 := ((Bool.and_eq_true _ _).mp h1.1).1
    rw [beq_iff_eq.1 h2]
    exact bl_irrefl _
theorem like_key : Like keyC := by
  refine ⟨fun a => by simp [keyC], fun h => by simp [keyC] at *; exact h.symm, fun {a b c} h1 h2 h3 => ?_, fun {a b} h => ?_⟩
  · have k1 := tless_key h1
    have k2 := tless_key h2
    have k3 : a.1.k = c.1.k := by simpa [keyC] using h3
    rw [k3] at k1
    show decide (b.1.k = c.1.k) = true
    rcases bl_cases b.1.k c.1.k with ⟨e1, _⟩ | ⟨_, _, e3⟩ | ⟨_, e2, _⟩
    · rw [e1] at k1; cases k1
    · simp [e3]
    · rw [e2] at k2; cases k2
  · unfold eqC at h
    have := ((Bool.and_eq_true _ _).mp h).1
    unfold keyC
    simpa using this
theorem same_eqC (a b : Ce) : sameC a b = eqC a b := by
  unfold sameC eqC
  by_cases h : a.k = b.k <;> simp [h]
theorem like_same : Like sameC := by
  refine ⟨sameC_self, sameC_symm, fun {a b c} h1 h2 h3 => ?_, fun h => by rw [same_eqC]; exact h⟩
  rw [same_eqC] at h3 ⊢
  rcases ce_tri b.1 c.1 with ⟨e1, e2, e3, e4⟩ | ⟨e1, e2, e3, e4⟩ | ⟨e1, e2, e3, e4⟩
  · exfalso
    have k := eqC_ahead (c := b.1) h3
    have : aheadC b.1 a.1 = true := by rw [k.2.1]; exact e1
    have h4 := tless_asymm h1
    rw [ahead_tless this] at h4
    cases h4
  · exact e3
  · unfold tless at h2
    rw [e1, e3] at h2
    cases h2
theorem dd_length (p : Ce → Ce → Bool) : ∀ (l : List Ce) (pr : Option Ce), (ddF p pr l).length ≤ l.length
  | [], _ => Nat.le_refl _
  | a :: l, pr => by
    show ((if pr.any (fun d => p d a) then [] else [a]) ++ ddF p (some a) l).length ≤ _
    have := dd_length p l (some a)
    rw [List.length_append, List.length_cons]
    split <;> simp <;> omega
theorem dd_tail (pre : List Ce) : ∀ a, ∃ o d, dd keyC (pre ++ [a]) = o ++ [d] ∧ d.k = a.k := by
  induction pre using snoc_ind with
  | h0 => intro a; exact ⟨[], a, rfl, rfl⟩
  | h1 l b ih =>
    intro a
    rw [dd_snoc, List.getLast?_append]
    show ∃ o d, dd keyC (l ++ [b]) ++ (if keyC b a = true then [] else [a]) = o ++ [d] ∧ d.k = a.k
    by_cases h : keyC b a = true
    · rw [if_pos h]
      obtain ⟨o, d, e1, e2⟩ := ih b
      refine ⟨o, d, by rw [e1]; simp, ?_⟩
      rw [e2]
      simpa [keyC] using h
    · rw [if_neg h]
      exact ⟨_, a, rfl, rfl⟩
theorem dd_key_step (pre : List Ce) (x : Ce) : (pre = [] ∧ dd keyC pre = [] ∧ dd keyC (pre ++ [x]) = [x]) ∨ (∃ o d, dd keyC pre = o ++ [d] ∧ dd keyC (pre ++ [x]) = if d.k = x.k then o ++ [d] else o ++ [d] ++ [x]) := by
  induction pre using snoc_ind with
  | h0 => exact .inl ⟨rfl, rfl, rfl⟩
  | h1 l b ih =>
    right
    obtain ⟨o, d, e1, e2⟩ := dd_tail l b
    refine ⟨o, d, e1, ?_⟩
    rw [dd_snoc, e1, List.getLast?_append]
    show (o ++ [d]) ++ (if keyC b x = true then [] else [x]) = _
    unfold keyC
    rw [e2]
    by_cases h : b.k = x.k
    · simp [h]
    · simp [h]
end Spoor
namespace Spoor
open Go

theorem dd_take (p : Ce → Ce → Bool) (pre : List Ce) (k : Nat) (hk : k < pre.length) : dd p (pre.take (k + 1)) = dd p (pre.take k) ++ (if 0 < k ∧ p (pre.getD (k - 1) Ce.zero) (pre.getD k Ce.zero) = true then [] else [pre.getD k Ce.zero]) := by
  have e : pre.take (k + 1) = pre.take k ++ [pre.getD k Ce.zero] := by
    rw [List.take_add_one]
    simp [List.getD, hk]
  rw [e, dd_snoc]
  congr 1
  by_cases h0 : 0 < k
  · have hl : (pre.take k).getLast? = some (pre.getD (k - 1) Ce.zero) := by
      rw [List.getLast?_eq_getElem?, List.length_take, Nat.min_eq_left (by omega), List.getElem?_take, if_pos (by omega)]
      simp [List.getD, show k - 1 < pre.length by omega]
    rw [hl]
    show (if p (pre.getD (k - 1) Ce.zero) (pre.getD k Ce.zero) = true then _ else _) = _
    by_cases h : p (pre.getD (k - 1) Ce.zero) (pre.getD k Ce.zero) = true
    · rw [if_pos h, if_pos ⟨h0, h⟩]
    · rw [if_neg h, if_neg fun e => h e.2]
  · have : k = 0 := by omega
    subst this
    simp
theorem insC_same {c y : Ce} : ∀ {l : List Ce}, Rise l → y ∈ l → sameC y c = true → insC c l = l
  | [], _, h, _ => by cases h
  | a :: l, hR, h, hs => by
    rw [insC]
    have h1 := List.pairwise_cons.1 hR
    rcases List.mem_cons.1 h with rfl | h
    · rw [if_neg, if_pos hs]
      rw [ahead_same_l hs, ahead_irrefl]
      simp
    · have ha : aheadC a c = true := by rw [← ahead_same_r hs]; exact h1.1 y h
      rw [if_pos ha, insC_same h1.2 h hs]
theorem mem_puts_any {x : Ce} : ∀ {l acc : List Ce}, Rise acc → Unlike l → (∀ c ∈ l, c.may = true) → (x ∈ putsC acc l ↔ x ∈ acc ∨ (x ∈ l ∧ ∀ y ∈ acc, sameC y x = false))
  | [], acc, _, _, _ => by simp [putsC]
  | c :: l, acc, hR, hU, hm => by
    have hp := List.pairwise_cons.1 hU
    show x ∈ putsC (putC acc c) l ↔ _
    rw [mem_puts_any (putC_rise hR) hp.2 fun d hd => hm d (List.mem_cons_of_mem _ hd)]
    have hc : putC acc c = insC c acc := by unfold putC; rw [if_pos (hm c List.mem_cons_self)]
    rw [hc]
    by_cases he : ∃ y ∈ acc, sameC y c = true
    · obtain ⟨y, hy, hs⟩ := he
      rw [insC_same hR hy hs]
      constructor
      · rintro (h | ⟨h, k⟩)
        · exact .inl h
        · exact .inr ⟨List.mem_cons_of_mem _ h, k⟩
      · rintro (h | ⟨h, k⟩)
        · exact .inl h
        · rcases List.mem_cons.1 h with rfl | h
          · have := k y hy; rw [hs] at this; cases this
          · exact .inr ⟨h, k⟩
    · have hn : ∀ y ∈ acc, sameC y c = false := fun y hy => by
        cases e : sameC y c with
        | false => rfl
        | true => exact absurd ⟨y, hy, e⟩ he
      rw [mem_insC hn]
      constructor
      · rintro ((rfl | h) | ⟨h, k⟩)
        · exact .inr ⟨List.mem_cons_self, hn⟩
        · exact .inl h
        · exact .inr ⟨List.mem_cons_of_mem _ h, fun y hy => k y ((mem_insC hn).2 (.inr hy))⟩
      · rintro (h | ⟨h, k⟩)
        · exact .inl (.inr h)
        · rcases List.mem_cons.1 h with rfl | h'
          · exact .inl (.inl rfl)
          · refine .inr ⟨h', fun y hy => ?_⟩
            rcases (mem_insC hn).1 hy with e | hy
            · rw [e]; exact hp.1 x h'
            · exact k y hy
theorem tless_same {a b : Tc} (h : eqC a.1 b.1 = true) : tless a b = decide (a.2 < b.2) := by
  unfold tless
  rw [h]
  rcases ce_tri a.1 b.1 with ⟨_, _, e, _⟩ | ⟨e, _⟩ | ⟨_, _, e, _⟩
  · rw [h] at e; cases e
  · rw [e]; simp
  · rw [h] at e; cases e
theorem merged_rise {R : List (List Ce)} {pre : List Ce} {p : Ce → Ce → Bool} (hp : Like p) (h : Merged R pre) : Rise (dd p pre) := by
  obtain ⟨T, rfl, -, hs⟩ := h
  exact (dd_pair hp T hs).imp fun h => h.1
theorem merged_mem {R : List (List Ce)} {pre : List Ce} {p : Ce → Ce → Bool} {x : Ce} (hp : Like p) (h : Merged R pre) : x ∈ dd p pre ↔ ∃ t ∈ tagsR 0 R, t.1 = x ∧ ∀ u ∈ tagsR 0 R, p u.1 x = true → tless u t = false := by
  obtain ⟨T, rfl, hT, hs⟩ := h
  rw [dd_mem hp T hs]
  constructor
  · rintro ⟨t, h1, h2, h3⟩
    exact ⟨t, hT.mem_iff.1 h1, h2, fun u hu => h3 u (hT.mem_iff.2 hu)⟩
  · rintro ⟨t, h1, h2, h3⟩
    exact ⟨t, hT.mem_iff.2 h1, h2, fun u hu => h3 u (hT.mem_iff.1 hu)⟩
theorem tagsR_mem {t : Tc} : ∀ {R : List (List Ce)} {i : Nat}, t ∈ tagsR i R → ∃ r ∈ R, t.1 ∈ r
  | [], _, h => by cases h
  | r :: R, i, h => by
    rcases List.mem_append.1 h with h | h
    · obtain ⟨c, hc, rfl⟩ := List.mem_map.1 h
      exact ⟨r, List.mem_cons_self, hc⟩
    · obtain ⟨s, hs, hc⟩ := tagsR_mem h
      exact ⟨s, List.mem_cons_of_mem _ hs, hc⟩
theorem merged_sub {R : List (List Ce)} {pre : List Ce} {x : Ce} (h : Merged R pre) (hx : x ∈ pre) : ∃ r ∈ R, x ∈ r := by
  obtain ⟨T, rfl, hT, hs⟩ := h
  obtain ⟨t, ht, rfl⟩ := List.mem_map.1 hx
  exact tagsR_mem (hT.mem_iff.1 ht)
theorem tagsR_length : ∀ {R : List (List Ce)} {i : Nat}, (tagsR i R).length = (R.map (·.length)).sum
  | [], _ => rfl
  | r :: R, i => by
    show ((r.map fun c => (c, i)) ++ tagsR (i + 1) R).length = _
    rw [List.length_append, List.length_map, tagsR_length, List.map_cons, List.sum_cons]
theorem merged_length {R : List (List Ce)} {pre : List Ce} (h : Merged R pre) : pre.length = (R.map (·.length)).sum := by
  obtain ⟨T, rfl, hT, hs⟩ := h
  rw [List.length_map, hT.length_eq, tagsR_length]
/-- what two are joined to is what they merge to -/
theorem merged_two {A B pre : List Ce} (hA : Rise A) (hB : Rise B) (mB : ∀ c ∈ B, c.may = true) (h : Merged [A, B] pre) : dd sameC pre = putsC A B := by
  refine rise_unique (merged_rise like_same h) (puts_rise hA) fun x => ?_
  rw [merged_mem like_same h, mem_puts_any hA (rise_unlike hB) mB]
  have mt : ∀ t : Tc, t ∈ tagsR 0 [A, B] ↔ (t.1 ∈ A ∧ t.2 = 0) ∨ (t.1 ∈ B ∧ t.2 = 1) := fun t => by
    obtain ⟨c, i⟩ := t
    show (c, i) ∈ (A.map fun c => (c, 0)) ++ ((B.map fun c => (c, 1)) ++ []) ↔ _
    rw [List.append_nil, List.mem_append, List.mem_map, List.mem_map]
    constructor
    · rintro (⟨d, h, e⟩ | ⟨d, h, e⟩)
      · cases e; exact .inl ⟨h, rfl⟩
      · cases e; exact .inr ⟨h, rfl⟩
    · rintro (⟨h, e⟩ | ⟨h, e⟩)
      · exact .inl ⟨c, h, by rw [show i = 0 from e]⟩
      · exact .inr ⟨c, h, by rw [show i = 1 from e]⟩
  constructor
  · rintro ⟨t, ht, rfl, hu⟩
    rcases (mt t).1 ht with ⟨h1, h2⟩ | ⟨h1, h2⟩
    · exact .inl h1
    · refine .inr ⟨h1, fun y hy => ?_⟩
      cases e : sameC y t.1 with
      | false => rfl
      | true =>
        have := hu (y, 0) ((mt _).2 (.inl ⟨hy, rfl⟩)) e
        rw [tless_same (by rw [← same_eqC]; exact e), h2] at this
        cases this
  · rintro (h1 | ⟨h1, h2⟩)
    · refine ⟨(x, 0), (mt _).2 (.inl ⟨h1, rfl⟩), rfl, fun u _ he => ?_⟩
      rw [tless_same (by rw [← same_eqC]; exact he)]
      simp
    · refine ⟨(x, 1), (mt _).2 (.inr ⟨h1, rfl⟩), rfl, fun u hu he => ?_⟩
      rcases (mt u).1 hu with ⟨k1, k2⟩ | ⟨k1, k2⟩
      · rw [h2 _ k1] at he; cases he
      · rw [tless_same (by rw [← same_eqC]; exact he), k2]
        rfl
theorem find_first {x : Ce} : ∀ {l : List Ce}, Rise l → x ∈ l → (∀ y ∈ l, y.k = x.k → aheadC y x = false) → findC l x.k = some x
  | [], _, h, _ => by cases h
  | a :: l, hR, h, hf => by
    have h1 := List.pairwise_cons.1 hR
    unfold findC
    rw [List.find?_cons]
    by_cases he : a.k = x.k
    · rw [show decide (a.k = x.k) = true by simp [he]]
      rcases List.mem_cons.1 h with rfl | h
      · rfl
      · have := hf a List.mem_cons_self he
        rw [h1.1 x h] at this
        cases this
    · rw [show decide (a.k = x.k) = false by simp [he]]
      rcases List.mem_cons.1 h with rfl | h
      · exact absurd rfl he
      · exact find_first h1.2 h fun y hy => hf y (List.mem_cons_of_mem _ hy)
theorem same_key {a b : Ce} (h : sameC a b = true) : keyC a b = true := by
  unfold sameC at h
  unfold keyC
  exact ((Bool.and_eq_true _ _).mp h).1
/-- of each key the newest is found -/
theorem merged_find {R : List (List Ce)} {pre : List Ce} {x : Ce} (h : Merged R pre) (hx : x ∈ dd keyC pre) : findC (dd sameC pre) x.k = some x := by
  obtain ⟨t, h1, rfl, h3⟩ := (merged_mem like_key h).1 hx
  refine find_first (merged_rise like_same h) ((merged_mem like_same h).2 ⟨t, h1, rfl, fun u hu he => h3 u hu (same_key he)⟩) fun y hy he => ?_
  obtain ⟨u, hu, rfl, -⟩ := (merged_mem like_same h).1 hy
  have := h3 u hu (by simp [keyC, he])
  cases e : aheadC u.1 t.1 with
  | false => rfl
  | true => rw [ahead_tless e] at this; cases this
/-- what rows merge to is one list -/
theorem merged_one {R : List (List Ce)} {p q : List Ce} (h : Merged R p) (k : Merged R q) : p = q := by
  obtain ⟨T, rfl, hT, hs⟩ := h
  obtain ⟨U, rfl, hU, ht⟩ := k
  have : T = U := (hT.trans hU.symm).eq_of_pairwise (le := fun a b => tless a b = true) (fun a b _ _ h1 h2 => by rw [tless_asymm h1] at h2; cases h2) hs ht
  rw [this]
end Spoor
