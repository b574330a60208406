/- Plain facts, no program in sight: rows in a heap. Plain facts, no program in sight: what merged rows come to. Plain facts, no program in sight: two memories' cells, merged. Plain facts, no program in sight: what a tablet tells. Plain facts, no program in sight: a tablet's tables as one. Plain facts, no program in sight: a tablet parted at a key; a tablet's stretch. -/
import Derived.Test.YtoglloafpnopaaaGreatTF
set_option linter.unusedSimpArgs false
set_option linter.unusedVariables false
namespace Spoor
open Go
abbrev Rw := List Ce × Nat
def hdC (r : Rw) : Ce := r.1.headD Ce.zero
def eqC (a b : Ce) : Bool := a.k == b.k && decide (a.q = b.q)
def rless (a b : Rw) : Bool := aheadC (hdC a) (hdC b) || (eqC (hdC a) (hdC b) && decide (a.2 < b.2))
theorem ce_tri (a b : Ce) : (aheadC a b = true ∧ aheadC b a = false ∧ eqC a b = false ∧ eqC b a = false) ∨ (aheadC a b = false ∧ aheadC b a = false ∧ eqC a b = true ∧ eqC b a = true) ∨ (aheadC a b = false ∧ aheadC b a = true ∧ eqC a b = false ∧ eqC b a = false) := by
 unfold aheadC eqC
 rcases bl_cases a.k b.k with ⟨h1, h2, h3, h4⟩ | ⟨h1, h2, h3⟩ | ⟨h1, h2, h3, h4⟩
 · left; simp [h1, h2, h3, h4]
 · rw [h3]
   have h5 : Op.bytesLess b.k b.k = false := bl_irrefl _
   simp only [h5, Bool.false_or, beq_self_eq_true, Bool.true_and]
   by_cases e1 : b.q < a.q
   · left; refine ⟨?_, ?_, ?_, ?_⟩ <;> simp <;> omega
   · by_cases e2 : a.q < b.q
     · right; right; refine ⟨?_, ?_, ?_, ?_⟩ <;> simp <;> omega
     · right; left; refine ⟨?_, ?_, ?_, ?_⟩ <;> simp <;> omega
 · right; right; simp [h1, h2, h3, h4]
theorem eqC_ahead {a b c : Ce} (h : eqC a b = true) : aheadC a c = aheadC b c ∧ aheadC c a = aheadC c b ∧ eqC a c = eqC b c ∧ eqC c a = eqC c b := by
 unfold eqC at h
 rw [Bool.and_eq_true, beq_iff_eq, decide_eq_true_eq] at h
 unfold aheadC eqC
 rw [h.1, h.2]
 exact ⟨rfl, rfl, rfl, rfl⟩
theorem rless_irrefl (a : Rw) : rless a a = false := by
 unfold rless
 rcases ce_tri (hdC a) (hdC a) with ⟨h1, h2, -⟩ | ⟨h1, -, h3, -⟩ | ⟨h1, h2, -⟩
 · rw [h1] at h2; cases h2
 · rw [h1, h3]; simp
 · rw [h1] at h2; cases h2
theorem rless_le {a b c : Rw} (h1 : rless b a = false) (h2 : rless c b = false) : rless c a = false := by
 unfold rless at *
 simp only [Bool.or_eq_false_iff, Bool.and_eq_false_iff, decide_eq_false_iff_not] at *
 obtain ⟨p1, p2⟩ := h1
 obtain ⟨q1, q2⟩ := h2
 rcases ce_tri (hdC a) (hdC b) with ⟨e1, e2, e3, e4⟩ | ⟨e1, e2, e3, e4⟩ | ⟨e1, e2, e3, e4⟩
 · rcases ce_tri (hdC b) (hdC c) with ⟨f1, f2, f3, f4⟩ | ⟨f1, f2, f3, f4⟩ | ⟨f1, f2, f3, f4⟩
   · have t := ahead_trans e1 f1
     rcases ce_tri (hdC a) (hdC c) with ⟨g1, g2, g3, g4⟩ | ⟨g1, g2, g3, g4⟩ | ⟨g1, g2, g3, g4⟩
     · exact ⟨g2, .inl g4⟩
     · rw [g1] at t; cases t
     · rw [g1] at t; cases t
   · have t := (eqC_ahead (c := hdC a) f3)
     rw [e2] at t
     refine ⟨t.1.symm, ?_⟩
     rw [e4] at t
     exact .inl t.2.2.1.symm
   · rw [f2] at q1; cases q1
 · have t := eqC_ahead (c := hdC c) e3
   rw [← t.2.1] at q1
   refine ⟨q1, ?_⟩
   rw [← t.2.2.2] at q2
   rcases q2 with q2 | q2
   · exact .inl q2
   · rcases p2 with p2 | p2
     · rw [e4] at p2; cases p2
     · exact .inr (by omega)
 · rw [e2] at p1; cases p1
theorem rless_asymm {a b : Rw} (h : rless a b = true) : rless b a = false := by
 unfold rless at *
 rcases ce_tri (hdC a) (hdC b) with ⟨e1, e2, e3, e4⟩ | ⟨e1, e2, e3, e4⟩ | ⟨e1, e2, e3, e4⟩
 · rw [e2, e4]; rfl
 · rw [e1, e3] at h
   rw [e2, e4]
   simp only [Bool.false_or, Bool.true_and, decide_eq_true_eq] at h
   simp only [Bool.false_or, Bool.true_and, decide_eq_false_iff_not]
   omega
 · rw [e1, e3] at h; cases h
theorem rless_lt_le {a b c : Rw} (h1 : rless a b = true) (h2 : rless c b = false) : rless c a = false := rless_le (rless_asymm h1) h2
def rz : Rw := ([], 0)
def swapR (H : List Rw) (i j : Nat) : List Rw := (H.set i (H.getD j rz)).set j (H.getD i rz)
theorem swapR_length (H : List Rw) (i j : Nat) : (swapR H i j).length = H.length := by simp [swapR]
theorem swapR_i {H : List Rw} {i j : Nat} (hi : i < H.length) (hj : j < H.length) : (swapR H i j).getD i rz = H.getD j rz := by
 unfold swapR
 by_cases e : i = j
 · subst e; simp [List.getD, hi]
 · simp [List.getD, List.getElem?_set, Ne.symm e, hi]
theorem swapR_j {H : List Rw} {i j : Nat} (hj : j < H.length) : (swapR H i j).getD j rz = H.getD i rz := by
 unfold swapR
 simp [List.getD, hj]
theorem swapR_other {H : List Rw} {i j k : Nat} (h1 : k ≠ i) (h2 : k ≠ j) : (swapR H i j).getD k rz = H.getD k rz := by
 unfold swapR
 simp [List.getD, List.getElem?_set, Ne.symm h1, Ne.symm h2]
theorem swapR_perm {H : List Rw} {i j : Nat} (hi : i < H.length) (hj : j < H.length) : (swapR H i j).Perm H := by
 have h := Array.swap_perm (xs := H.toArray) (i := i) (j := j) (by simpa using hi) (by simpa using hj)
 have e : (H.toArray.swap i j (by simpa using hi) (by simpa using hj)).toList = swapR H i j := by
  unfold swapR
  simp [Array.swap, List.getD, hi, hj]
 have := h.toList
 rw [e] at this
 simpa using this
def par (i : Nat) : Nat := (i - 1) / 2
structure UpI (H : List Rw) (j : Nat) : Prop where
 lt : j < H.length
 one : ∀ i, i < H.length → 0 < i → i ≠ j → rless (H.getD i rz) (H.getD (par i) rz) = false
 two : ∀ i, i < H.length → 0 < i → par i = j → 0 < j → rless (H.getD i rz) (H.getD (par j) rz) = false
def HeapR (n : Nat) (H : List Rw) : Prop := ∀ i, i < n → 0 < i → rless (H.getD i rz) (H.getD (par i) rz) = false
theorem par_lt {i : Nat} (h : 0 < i) : par i < i := by unfold par; omega
theorem UpI.done {H : List Rw} {j : Nat} (h : UpI H j) (hj : j = 0 ∨ rless (H.getD j rz) (H.getD (par j) rz) = false) : HeapR H.length H := fun i hi h0 => by
 by_cases e : i = j
 · subst e
   rcases hj with hj | hj
   · omega
   · exact hj
 · exact h.one i hi h0 e
theorem UpI.step {H : List Rw} {j : Nat} (h : UpI H j) (h0 : 0 < j) (hl : rless (H.getD j rz) (H.getD (par j) rz) = true) : UpI (swapR H (par j) j) (par j) := by
 have hp := par_lt h0
 have hj := h.lt
 have hpl : par j < H.length := by omega
 refine ⟨by rw [swapR_length]; exact hpl, fun i hi hi0 hne => ?_, fun i hi hi0 hpi hp0 => ?_⟩
 · rw [swapR_length] at hi
   by_cases e1 : i = j
   · subst e1
     rw [swapR_j hj, swapR_i hpl hj]
     exact rless_asymm hl
   · rw [swapR_other hne e1]
     by_cases e2 : par i = j
     · rw [e2, swapR_j hj]
       exact h.two i hi hi0 e2 h0
     · by_cases e3 : par i = par j
       · rw [e3, swapR_i hpl hj]
         have q := h.one i hi hi0 e1
         rw [e3] at q
         exact rless_lt_le hl q
       · rw [swapR_other e3 e2]
         exact h.one i hi hi0 e1
 · rw [swapR_length] at hi
   have hpp := par_lt hp0
   have e3 : par (par j) ≠ par j := by omega
   have e4 : par (par j) ≠ j := by omega
   rw [swapR_other e3 e4]
   have q := h.one (par j) hpl hp0 (by omega)
   by_cases e1 : i = j
   · subst e1
     rw [swapR_j hj]
     exact q
   · have e2 : i ≠ par j := fun e => by rw [e] at hpi; omega
     rw [swapR_other e2 e1]
     have q2 := h.one i hi hi0 e1
     rw [hpi] at q2
     exact rless_le q q2
theorem UpI.snoc {H : List Rw} (h : HeapR H.length H) (r : Rw) : UpI (H ++ [r]) H.length := by
 refine ⟨by simp, fun i hi h0 hne => ?_, fun i hi h0 hp _ => ?_⟩
 · rw [List.length_append, List.length_singleton] at hi
   have hi2 : i < H.length := by omega
   have hp := par_lt h0
   have e1 : (H ++ [r]).getD i rz = H.getD i rz := by simp [List.getD, List.getElem?_append_left hi2]
   have e2 : (H ++ [r]).getD (par i) rz = H.getD (par i) rz := by simp [List.getD, List.getElem?_append_left (show par i < H.length by omega)]
   rw [e1, e2]
   exact h i hi2 h0
 · rw [List.length_append, List.length_singleton] at hi
   have := par_lt h0
   omega
structure DnI (n : Nat) (H : List Rw) (j : Nat) : Prop where
 lt : n ≤ H.length
 one : ∀ i, i < n → 0 < i → par i ≠ j → rless (H.getD i rz) (H.getD (par i) rz) = false
 two : ∀ i, i < n → 0 < i → par i = j → 0 < j → rless (H.getD i rz) (H.getD (par j) rz) = false
theorem DnI.done {n : Nat} {H : List Rw} {j : Nat} (h : DnI n H j) (hj : ∀ i, i < n → 0 < i → par i = j → rless (H.getD i rz) (H.getD j rz) = false) : HeapR n H := fun i hi h0 => by
 by_cases e : par i = j
 · rw [e]; exact hj i hi h0 e
 · exact h.one i hi h0 e
theorem DnI.step {n : Nat} {H : List Rw} {j c : Nat} (h : DnI n H j) (hj : j < n) (hc : c < n) (h0 : 0 < c) (hp : par c = j) (hl : rless (H.getD c rz) (H.getD j rz) = true) (hm : ∀ i, i < n → 0 < i → par i = j → rless (H.getD i rz) (H.getD c rz) = false) : DnI n (swapR H j c) c := by
 have hn := h.lt
 have hcj := par_lt h0
 rw [hp] at hcj
 refine ⟨by rw [swapR_length]; exact hn, fun i hi hi0 hne => ?_, fun i hi hi0 hpi _ => ?_⟩
 · have hpi := par_lt hi0
   by_cases e1 : i = c
   · subst e1
     rw [hp, swapR_j (by omega), swapR_i (by omega) (by omega)]
     exact rless_asymm hl
   · by_cases e2 : i = j
     · subst e2
       rw [swapR_i (by omega) (by omega), swapR_other (show par i ≠ i by omega) (by omega)]
       exact h.two c hc h0 hp hi0
     · rw [swapR_other e2 e1]
       by_cases e3 : par i = j
       · rw [e3, swapR_i (by omega) (by omega)]
         exact hm i hi hi0 e3
       · rw [swapR_other e3 hne]
         exact h.one i hi hi0 e3
 · have hpi2 := par_lt hi0
   rw [hp, swapR_i (by omega) (by omega), swapR_other (show i ≠ j by omega) (show i ≠ c by omega)]
   have q := h.one i hi hi0 (by omega)
   rw [hpi] at q
   exact q
theorem HeapR.min {n : Nat} {H : List Rw} (h : HeapR n H) : ∀ i, i < n → rless (H.getD i rz) (H.getD 0 rz) = false := by
 intro i
 induction i using Nat.strongRecOn with
 | ind i ih =>
   intro hi
   rcases Nat.eq_zero_or_pos i with e | e
   · subst e; exact rless_irrefl _
   · have hp := par_lt e
     exact rless_le (ih (par i) hp (by omega)) (h i hi e)
theorem DnI.pop {n : Nat} {H : List Rw} (h : HeapR (n + 1) H) (hn : n < H.length) : DnI n (swapR H 0 n) 0 := by
 refine ⟨by rw [swapR_length]; omega, fun i hi h0 hne => ?_, fun i hi h0 hp h1 => by omega⟩
 have hp := par_lt h0
 rw [swapR_other (by omega) (by omega), swapR_other hne (by omega)]
 exact h i (by omega) h0
def StepR (H : List Rw) (c : Ce) (H' : List Rw) : Prop := ∃ rest pl T, (T ++ [(c :: rest, pl)]).Perm H ∧ (∀ i, i < H.length → rless (H.getD i rz) (c :: rest, pl) = false) ∧ H'.Perm (if rest = [] then T else T ++ [(rest, pl)])
def cnt (H : List Rw) : Nat := (H.map fun r => r.1.length).sum
theorem cnt_perm {H H' : List Rw} (h : H.Perm H') : cnt H = cnt H' := (h.map _).sum_nat
theorem cnt_app (H G : List Rw) : cnt (H ++ G) = cnt H + cnt G := by simp [cnt]
theorem StepR.cnt {H H' : List Rw} {c : Ce} (h : StepR H c H') : cnt H = cnt H' + 1 := by
 obtain ⟨rest, pl, T, h1, -, h2⟩ := h
 rw [← cnt_perm h1, cnt_perm h2, cnt_app]
 by_cases hr : rest = []
 · rw [if_pos hr, hr]; rfl
 · rw [if_neg hr, cnt_app]
   simp [Spoor.cnt]
   omega
inductive RunsTo (H : List Rw) : List Ce → List Rw → Prop
 | start : RunsTo H [] H
 | one {pre : List Ce} {H1 H2 : List Rw} {c : Ce} : RunsTo H pre H1 → StepR H1 c H2 → RunsTo H (pre ++ [c]) H2
theorem RunsTo.cnt {H H' : List Rw} {pre : List Ce} (h : RunsTo H pre H') : cnt H = cnt H' + pre.length := by
 induction h with
 | start => rfl
 | one h1 h2 ih => rw [ih, h2.cnt, List.length_append, List.length_singleton]; omega
def plRows : Nat → List (List Ce) → List Rw
 | _, [] => []
 | i, r :: rs => (if r = [] then [] else [(r, i)]) ++ plRows (i + 1) rs
theorem plRows_snoc (r : List Ce) : ∀ (rs : List (List Ce)) (i : Nat), plRows i (rs ++ [r]) = plRows i rs ++ (if r = [] then [] else [(r, i + rs.length)])
 | [], i => by simp [plRows]
 | a :: rs, i => by
   show _ ++ plRows (i + 1) (rs ++ [r]) = (_ ++ plRows (i + 1) rs) ++ _
   rw [plRows_snoc r rs (i + 1), List.append_assoc, List.length_cons, show i + 1 + rs.length = i + (rs.length + 1) by omega]
theorem plRows_len : ∀ (rs : List (List Ce)) (i : Nat), (plRows i rs).length ≤ rs.length
 | [], i => Nat.le_refl _
 | a :: rs, i => by
   show (_ ++ plRows (i + 1) rs).length ≤ _
   have := plRows_len rs (i + 1)
   rw [List.length_append, List.length_cons]
   split <;> simp <;> omega
abbrev Tc := Ce × Nat
def tless (a b : Tc) : Bool := aheadC a.1 b.1 || (eqC a.1 b.1 && decide (a.2 < b.2))
def tagR (r : Rw) : List Tc := r.1.map fun c => (c, r.2)
def tags (H : List Rw) : List Tc := H.flatMap tagR
def tagsR : Nat → List (List Ce) → List Tc
 | _, [] => []
 | i, r :: rs => (r.map fun c => (c, i)) ++ tagsR (i + 1) rs
theorem tless_irrefl (a : Tc) : tless a a = false := rless_irrefl ([a.1], a.2)
theorem tless_le {a b c : Tc} (h1 : tless b a = false) (h2 : tless c b = false) : tless c a = false := rless_le (a := ([a.1], a.2)) (b := ([b.1], b.2)) (c := ([c.1], c.2)) h1 h2
theorem tless_asymm {a b : Tc} (h : tless a b = true) : tless b a = false := rless_asymm (a := ([a.1], a.2)) (b := ([b.1], b.2)) h
theorem ahead_tless {a b : Tc} (h : aheadC a.1 b.1 = true) : tless a b = true := by unfold tless; rw [h]; rfl
theorem tags_plRows : ∀ (R : List (List Ce)) (i : Nat), tags (plRows i R) = tagsR i R
 | [], _ => rfl
 | r :: R, i => by
   show tags ((if r = [] then [] else [(r, i)]) ++ plRows (i + 1) R) = (r.map fun c => (c, i)) ++ tagsR (i + 1) R
   have e : tags ((if r = [] then [] else [(r, i)]) ++ plRows (i + 1) R) = tags (if r = [] then [] else [(r, i)]) ++ tags (plRows (i + 1) R) := List.flatMap_append
   rw [e, tags_plRows R (i + 1)]
   by_cases h : r = []
   · rw [if_pos h, h]; rfl
   · rw [if_neg h]
     show (r.map _ ++ []) ++ _ = _
     rw [List.append_nil]
theorem tags_perm {H G : List Rw} (h : H.Perm G) : (tags H).Perm (tags G) := h.flatMap_right _
def RowsOk (H : List Rw) : Prop := ∀ r ∈ H, Rise r.1 ∧ r.1 ≠ []
theorem RowsOk.perm {H G : List Rw} (h : RowsOk H) (p : G.Perm H) : RowsOk G := fun r hr => h r (p.mem_iff.1 hr)
theorem row_ge {r : Rw} (h : Rise r.1) : ∀ x ∈ tagR r, tless x (hdC r, r.2) = false := fun x hx => by
 obtain ⟨l, pl⟩ := r
 obtain ⟨c, hc, rfl⟩ := List.mem_map.1 hx
 cases l with
 | nil => cases hc
 | cons a l =>
   rcases List.mem_cons.1 hc with rfl | hc
   · exact tless_irrefl _
   · exact tless_asymm (ahead_tless (List.rel_of_pairwise_cons h hc))
theorem mem_getD {H : List Rw} {r : Rw} (h : r ∈ H) : ∃ i, i < H.length ∧ H.getD i rz = r := by
 obtain ⟨i, hi, e⟩ := List.getElem_of_mem h
 exact ⟨i, hi, by rw [← e]; simp [List.getD, hi]⟩
theorem StepR.tag {H H' : List Rw} {c : Ce} (h : StepR H c H') (ok : RowsOk H) : ∃ pl, ((c, pl) :: tags H').Perm (tags H) ∧ (∀ x ∈ tags H', tless x (c, pl) = false) ∧ RowsOk H' := by
 obtain ⟨rest, pl, T, h1, h2, h3⟩ := h
 have e1 : (tags H').Perm (tags T ++ tagR (rest, pl)) := by
  refine (tags_perm h3).trans ?_
  by_cases hr : rest = []
  · rw [if_pos hr, hr]
    show (tags T).Perm (tags T ++ [])
    rw [List.append_nil]
  · rw [if_neg hr]
    have : tags (T ++ [(rest, pl)]) = tags T ++ tagR (rest, pl) := by
     show (T ++ [(rest, pl)]).flatMap tagR = _
     rw [List.flatMap_append, List.flatMap_singleton]
     rfl
    rw [this]
 have hT : ∀ r ∈ T, r ∈ H := fun r hr => h1.mem_iff.1 (List.mem_append_left _ hr)
 have hc : (c :: rest, pl) ∈ H := h1.mem_iff.1 (List.mem_append_right _ List.mem_cons_self)
 refine ⟨pl, ?_, fun x hx => ?_, fun r hr => ?_⟩
 · refine List.Perm.trans ?_ (tags_perm h1)
   have e2 : tags (T ++ [(c :: rest, pl)]) = tags T ++ ((c, pl) :: tagR (rest, pl)) := by
    show (T ++ [(c :: rest, pl)]).flatMap tagR = _
    rw [List.flatMap_append, List.flatMap_singleton]
    rfl
   rw [e2]
   exact (List.Perm.cons _ e1).trans List.perm_middle.symm
 · rcases List.mem_append.1 (e1.mem_iff.1 hx) with hx | hx
   · obtain ⟨r, hr, hx⟩ := List.mem_flatMap.1 hx
     obtain ⟨i, hi, e⟩ := mem_getD (hT r hr)
     have g := h2 i hi
     rw [e] at g
     have g2 : tless (hdC r, r.2) (c, pl) = false := g
     exact tless_le g2 (row_ge (ok r (hT r hr)).1 x hx)
   · obtain ⟨d, hd, rfl⟩ := List.mem_map.1 hx
     exact tless_asymm (ahead_tless (List.rel_of_pairwise_cons (ok _ hc).1 hd))
 · have hr2 := h3.mem_iff.1 hr
   by_cases he : rest = []
   · rw [if_pos he] at hr2
     exact ok r (hT r hr2)
   · rw [if_neg he] at hr2
     rcases List.mem_append.1 hr2 with hr2 | hr2
     · exact ok r (hT r hr2)
     · rw [List.mem_singleton.1 hr2]
       exact ⟨(List.pairwise_cons.1 (ok _ hc).1).2, he⟩
theorem RunsTo.tag {H H' : List Rw} {pre : List Ce} (h : RunsTo H pre H') (ok : RowsOk H) : ∃ T : List Tc, T.map (·.1) = pre ∧ (T ++ tags H').Perm (tags H) ∧ T.Pairwise (fun a b => tless b a = false) ∧ (∀ t ∈ T, ∀ x ∈ tags H', tless x t = false) ∧ RowsOk H' := by
 induction h with
 | start => exact ⟨[], rfl, List.Perm.refl _, .nil, (by simp), ok⟩
 | one h1 h2 ih =>
   obtain ⟨T, e, hp, hs, hl, ok1⟩ := ih
   obtain ⟨pl, p2, l2, ok2⟩ := h2.tag ok1
   rename_i c
   have hcm : (c, pl) ∈ tags _ := p2.mem_iff.1 List.mem_cons_self
   refine ⟨T ++ [(c, pl)], by rw [List.map_append, e]; rfl, ?_, ?_, ?_, ok2⟩
   · refine List.Perm.trans ?_ hp
     rw [List.append_assoc]
     exact List.Perm.append_left T p2
   · refine List.pairwise_append.2 ⟨hs, List.pairwise_singleton _ _, fun a ha b hb => ?_⟩
     rw [List.mem_singleton.1 hb]
     exact hl a ha _ hcm
   · intro t ht x hx
     rcases List.mem_append.1 ht with ht | ht
     · exact hl t ht x (p2.mem_iff.1 (List.mem_cons_of_mem _ hx))
     · rw [List.mem_singleton.1 ht]
       exact l2 x hx
def Merged (R : List (List Ce)) (pre : List Ce) : Prop := ∃ T : List Tc, T.map (·.1) = pre ∧ T.Perm (tagsR 0 R) ∧ T.Pairwise (fun a b => tless a b = true)
theorem tagsR_place : ∀ {R : List (List Ce)} {i : Nat} {t : Tc}, t ∈ tagsR i R → i ≤ t.2
 | [], _, _, h => by cases h
 | r :: R, i, t, h => by
   rcases List.mem_append.1 h with h | h
   · obtain ⟨c, _, rfl⟩ := List.mem_map.1 h
     exact Nat.le_refl _
   · exact Nat.le_of_succ_le (tagsR_place h)
theorem tless_or {a b : Tc} (h : a.2 ≠ b.2) : tless a b = true ∨ tless b a = true := by
 unfold tless
 rcases ce_tri a.1 b.1 with ⟨e1, -⟩ | ⟨-, -, e3, e4⟩ | ⟨-, e2, -⟩
 · exact .inl (by rw [e1]; rfl)
 · rw [e3, e4]
   rcases Nat.lt_or_gt_of_ne h with h | h
   · exact .inl (by simp [h])
   · exact .inr (by simp; exact .inr h)
 · exact .inr (by rw [e2]; rfl)
theorem tagsR_apart : ∀ {R : List (List Ce)} {i : Nat}, (∀ r ∈ R, Rise r) → (tagsR i R).Pairwise (fun a b => tless a b = true ∨ tless b a = true)
 | [], _, _ => .nil
 | r :: R, i, h => by
   refine List.pairwise_append.2 ⟨?_, tagsR_apart fun r hr => h r (List.mem_cons_of_mem _ hr), fun a ha b hb => ?_⟩
   · refine List.pairwise_map.2 ((h r List.mem_cons_self).imp fun h => .inl (ahead_tless h))
   · obtain ⟨c, _, rfl⟩ := List.mem_map.1 ha
     have := tagsR_place hb
     exact tless_or (show i ≠ b.2 by omega)
theorem merged_of {R : List (List Ce)} {H : List Rw} {pre : List Ce} (hR : ∀ r ∈ R, Rise r) (hp : H.Perm (plRows 0 R)) (h : RunsTo H pre []) : Merged R pre := by
 have ok0 : ∀ {R : List (List Ce)} {i : Nat}, (∀ r ∈ R, Rise r) → RowsOk (plRows i R) := by
  intro R
  induction R with
  | nil => intro i _ r hr; cases hr
  | cons a R ih =>
    intro i h r hr
    rcases List.mem_append.1 (show r ∈ (if a = [] then [] else [(a, i)]) ++ plRows (i + 1) R from hr) with hr | hr
    · by_cases e : a = []
      · rw [if_pos e] at hr; cases hr
      · rw [if_neg e] at hr
        rw [List.mem_singleton.1 hr]
        exact ⟨h a List.mem_cons_self, e⟩
    · exact ih (fun r hr => h r (List.mem_cons_of_mem _ hr)) r hr
 obtain ⟨T, e, p, hs, -, -⟩ := h.tag ((ok0 hR).perm hp)
 have p2 : T.Perm (tagsR 0 R) := by
  have p' : (T ++ []).Perm (tags H) := p
  rw [List.append_nil] at p'
  exact p'.trans ((tags_perm hp).trans (by rw [tags_plRows]))
 refine ⟨T, e, p2, ?_⟩
 have ap := (p2.symm.pairwise_iff (R := fun a b => tless a b = true ∨ tless b a = true) (fun h => h.symm)).1 (tagsR_apart hR)
 refine (hs.and ap).imp fun ⟨h1, h2⟩ => ?_
 rcases h2 with h2 | h2
 · exact h2
 · rw [h1] at h2; cases h2
def ddF (p : Ce → Ce → Bool) : Option Ce → List Ce → List Ce
 | _, [] => []
 | pr, c :: l => (if pr.any (fun d => p d c) then [] else [c]) ++ ddF p (some c) l
theorem ddF_snoc (p : Ce → Ce → Bool) (c : Ce) : ∀ (l : List Ce) (pr : Option Ce), ddF p pr (l ++ [c]) = ddF p pr l ++ (if (l.getLast?.or pr).any (fun d => p d c) then [] else [c])
 | [], pr => by
   show (if pr.any (fun d => p d c) then [] else [c]) ++ [] = _
   rw [List.append_nil]
   rfl
 | a :: l, pr => by
   show _ ++ ddF p (some a) (l ++ [c]) = (_ ++ ddF p (some a) l) ++ _
   rw [ddF_snoc p c l (some a), List.append_assoc, List.getLast?_cons]
   cases l.getLast? <;> rfl
abbrev dd (p : Ce → Ce → Bool) (l : List Ce) : List Ce := ddF p none l
def keyC (a b : Ce) : Bool := decide (a.k = b.k)
theorem dd_snoc (p : Ce → Ce → Bool) (l : List Ce) (c : Ce) : dd p (l ++ [c]) = dd p l ++ (if l.getLast?.any (fun d => p d c) then [] else [c]) := by
 rw [dd, ddF_snoc]
 simp
theorem dd_mem_sub {p : Ce → Ce → Bool} {x : Ce} : ∀ {l : List Ce} {pr : Option Ce}, x ∈ ddF p pr l → x ∈ l
 | [], _, h => h
 | a :: l, pr, h => by
   rcases List.mem_append.1 (show x ∈ (if pr.any (fun d => p d a) then [] else [a]) ++ ddF p (some a) l from h) with h | h
   · split at h
     · cases h
     · rw [List.mem_singleton.1 h]; exact List.mem_cons_self
   · exact List.mem_cons_of_mem _ (dd_mem_sub h)
theorem snoc_ind {α : Type} {P : List α → Prop} (h0 : P []) (h1 : ∀ l a, P l → P (l ++ [a])) (l : List α) : P l := by
 rw [← List.reverse_reverse l]
 induction l.reverse with
 | nil => exact h0
 | cons a l ih => rw [List.reverse_cons]; exact h1 _ _ ih
structure Like (p : Ce → Ce → Bool) : Prop where
 refl : ∀ a, p a a = true
 sym : ∀ {a b}, p a b = true → p b a = true
 mid : ∀ {a b c : Tc}, tless a b = true → tless b c = true → p a.1 c.1 = true → p b.1 c.1 = true
 eq : ∀ {a b}, eqC a b = true → p a b = true
theorem dd_last {p : Ce → Ce → Bool} (hp : Like p) {T : List Tc} {z : Tc} (hs : (T ++ [z]).Pairwise (fun a b => tless a b = true)) : ((T.map (·.1)).getLast?.any (fun d => p d z.1)) = true ↔ ∃ u ∈ T, p u.1 z.1 = true := by
 obtain ⟨h1, -, h3⟩ := List.pairwise_append.1 hs
 constructor
 · intro h
   rw [List.getLast?_map] at h
   cases e : T.getLast? with
   | none => rw [e] at h; cases h
   | some t =>
     rw [e] at h
     exact ⟨t, List.mem_of_getLast? e, h⟩
 · rintro ⟨u, hu, he⟩
   rw [List.getLast?_map]
   have hne : T ≠ [] := fun e => by rw [e] at hu; cases hu
   obtain ⟨T', t, rfl⟩ : ∃ T' t, T = T' ++ [t] := ⟨T.dropLast, T.getLast hne, (List.dropLast_concat_getLast hne).symm⟩
   rw [List.getLast?_append]
   show p t.1 z.1 = true
   rcases List.mem_append.1 hu with hu | hu
   · exact hp.mid ((List.pairwise_append.1 h1).2.2 u hu t (by simp)) (h3 t (by simp) z (by simp)) he
   · rw [← List.mem_singleton.1 hu]; exact he
theorem dd_mem {p : Ce → Ce → Bool} (hp : Like p) {x : Ce} (T : List Tc) : T.Pairwise (fun a b => tless a b = true) → (x ∈ dd p (T.map (·.1)) ↔ ∃ t ∈ T, t.1 = x ∧ ∀ u ∈ T, p u.1 x = true → tless u t = false) := by
 induction T using snoc_ind with
 | h0 => intro _; constructor <;> intro h <;> simp [dd, ddF] at h
 | h1 T z ih =>
   intro hs
   obtain ⟨h1, -, h3⟩ := List.pairwise_append.1 hs
   have ih := ih h1
   have hl := dd_last hp hs
   rw [List.map_append, List.map_singleton, dd_snoc, List.mem_append, ih]
   constructor
   · rintro (⟨t, ht, e, hb⟩ | h)
     · refine ⟨t, List.mem_append_left _ ht, e, fun u hu hpu => ?_⟩
       rcases List.mem_append.1 hu with hu | hu
       · exact hb u hu hpu
       · rw [List.mem_singleton.1 hu]
         exact tless_asymm (h3 t ht z (by simp))
     · split at h
       · cases h
       · rename_i hn
         obtain rfl := List.mem_singleton.1 h
         refine ⟨z, by simp, rfl, fun u hu hpu => ?_⟩
         rcases List.mem_append.1 hu with hu | hu
         · exact absurd (hl.2 ⟨u, hu, hpu⟩) hn
         · rw [List.mem_singleton.1 hu]; exact tless_irrefl _
   · rintro ⟨t, ht, e, hb⟩
     rcases List.mem_append.1 ht with ht | ht
     · exact .inl ⟨t, ht, e, fun u hu hpu => hb u (List.mem_append_left _ hu) hpu⟩
     · right
       obtain rfl := List.mem_singleton.1 ht
       rw [if_neg]
       · rw [e]; simp
       · intro h
         obtain ⟨u, hu, hpu⟩ := hl.1 h
         have := hb u (List.mem_append_left _ hu) (by rw [← e]; exact hpu)
         rw [h3 u hu t (by simp)] at this
         cases this
theorem dd_pair {p : Ce → Ce → Bool} (hp : Like p) (T : List Tc) : T.Pairwise (fun a b => tless a b = true) → (dd p (T.map (·.1))).Pairwise (fun a b => aheadC a b = true ∧ p a b = false) := by
 induction T using snoc_ind with
 | h0 => intro _; exact .nil
 | h1 T z ih =>
   intro hs
   obtain ⟨h1, -, h3⟩ := List.pairwise_append.1 hs
   have hl := dd_last hp hs
   rw [List.map_append, List.map_singleton, dd_snoc]
   by_cases hn : ((T.map (·.1)).getLast?.any (fun d => p d z.1)) = true
   · rw [if_pos hn, List.append_nil]; exact ih h1
   · rw [if_neg hn]
     refine List.pairwise_append.2 ⟨ih h1, List.pairwise_singleton _ _, fun a ha b hb => ?_⟩
     rw [List.mem_singleton.1 hb]
     obtain ⟨u, hu, rfl⟩ := List.mem_map.1 (dd_mem_sub ha)
     have hpu : p u.1 z.1 = false := by
      cases e : p u.1 z.1 with
      | false => rfl
      | true => exact absurd (hl.2 ⟨u, hu, e⟩) hn
     refine ⟨?_, hpu⟩
     have hlt := h3 u hu z (by simp)
     rcases ce_tri u.1 z.1 with ⟨e1, -⟩ | ⟨-, -, e3, -⟩ | ⟨e1, -, e3, -⟩
     · exact e1
     · rw [hp.eq e3] at hpu; cases hpu
     · unfold tless at hlt
       rw [e1, e3] at hlt
       cases hlt
theorem tless_key {a b : Tc} (h : tless a b = true) : Op.bytesLess b.1.k a.1.k = false := by
 unfold tless at h
 rcases (Bool.or_eq_true _ _).mp h with h | h
 · unfold aheadC at h
   rcases bl_cases a.1.k b.1.k with ⟨e1, e2, _⟩ | ⟨e1, e2, e3⟩ | ⟨e1, e2, e3, _⟩
   · exact e2
   · exact e2
   · rw [e1] at h
     have e4 : (a.1.k == b.1.k) = false := by simp [e3]
     rw [e4] at h
     cases h
 · have h1 := (Bool.and_eq_true _ _).mp h
   unfold eqC at h1
   have h2 := ((Bool.and_eq_true _ _).mp h1.1).1
   rw [beq_iff_eq.1 h2]
   exact bl_irrefl _
theorem like_key : Like keyC := by
 refine ⟨fun a => by simp [keyC], fun h => by simp [keyC] at *; exact h.symm, fun {a b c} h1 h2 h3 => ?_, fun {a b} h => ?_⟩
 · have k1 := tless_key h1
   have k2 := tless_key h2
   have k3 : a.1.k = c.1.k := by simpa [keyC] using h3
   rw [k3] at k1
   show decide (b.1.k = c.1.k) = true
   rcases bl_cases b.1.k c.1.k with ⟨e1, _⟩ | ⟨_, _, e3⟩ | ⟨_, e2, _⟩
   · rw [e1] at k1; cases k1
   · simp [e3]
   · rw [e2] at k2; cases k2
 · unfold eqC at h
   have := ((Bool.and_eq_true _ _).mp h).1
   unfold keyC
   simpa using this
theorem dd_length (p : Ce → Ce → Bool) : ∀ (l : List Ce) (pr : Option Ce), (ddF p pr l).length ≤ l.length
 | [], _ => Nat.le_refl _
 | a :: l, pr => by
   show ((if pr.any (fun d => p d a) then [] else [a]) ++ ddF p (some a) l).length ≤ _
   have := dd_length p l (some a)
   rw [List.length_append, List.length_cons]
   split <;> simp <;> omega
theorem dd_tail (pre : List Ce) : ∀ a, ∃ o d, dd keyC (pre ++ [a]) = o ++ [d] ∧ d.k = a.k := by
 induction pre using snoc_ind with
 | h0 => intro a; exact ⟨[], a, rfl, rfl⟩
 | h1 l b ih =>
   intro a
   rw [dd_snoc, List.getLast?_append]
   show ∃ o d, dd keyC (l ++ [b]) ++ (if keyC b a = true then [] else [a]) = o ++ [d] ∧ d.k = a.k
   by_cases h : keyC b a = true
   · rw [if_pos h]
     obtain ⟨o, d, e1, e2⟩ := ih b
     refine ⟨o, d, by rw [e1]; simp, ?_⟩
     rw [e2]
     simpa [keyC] using h
   · rw [if_neg h]
     exact ⟨_, a, rfl, rfl⟩
theorem dd_key_step (pre : List Ce) (x : Ce) : (pre = [] ∧ dd keyC pre = [] ∧ dd keyC (pre ++ [x]) = [x]) ∨ (∃ o d, dd keyC pre = o ++ [d] ∧ dd keyC (pre ++ [x]) = if d.k = x.k then o ++ [d] else o ++ [d] ++ [x]) := by
 induction pre using snoc_ind with
 | h0 => exact .inl ⟨rfl, rfl, rfl⟩
 | h1 l b ih =>
   right
   obtain ⟨o, d, e1, e2⟩ := dd_tail l b
   refine ⟨o, d, e1, ?_⟩
   rw [dd_snoc, e1, List.getLast?_append]
   show (o ++ [d]) ++ (if keyC b x = true then [] else [x]) = _
   unfold keyC
   rw [e2]
   by_cases h : b.k = x.k
   · simp [h]
   · simp [h]
theorem merged_mem {R : List (List Ce)} {pre : List Ce} {p : Ce → Ce → Bool} {x : Ce} (hp : Like p) (h : Merged R pre) : x ∈ dd p pre ↔ ∃ t ∈ tagsR 0 R, t.1 = x ∧ ∀ u ∈ tagsR 0 R, p u.1 x = true → tless u t = false := by
 obtain ⟨T, rfl, hT, hs⟩ := h
 rw [dd_mem hp T hs]
 constructor
 · rintro ⟨t, h1, h2, h3⟩
   exact ⟨t, hT.mem_iff.1 h1, h2, fun u hu => h3 u (hT.mem_iff.2 hu)⟩
 · rintro ⟨t, h1, h2, h3⟩
   exact ⟨t, hT.mem_iff.2 h1, h2, fun u hu => h3 u (hT.mem_iff.1 hu)⟩
def BestR (R : List (List Ce)) (x : Ce) : Prop := ∃ t ∈ tagsR 0 R, t.1 = x ∧ ∀ u ∈ tagsR 0 R, keyC u.1 x = true → tless u t = false
def KeyUp (L : List Ce) : Prop := L.Pairwise fun a b => Op.bytesLess a.k b.k = true
theorem bl_ahead {a b : Ce} (h : Op.bytesLess a.k b.k = true) : aheadC a b = true := by unfold aheadC; rw [h]; rfl
theorem KeyUp.rise {L : List Ce} (h : KeyUp L) : Rise L := h.imp bl_ahead
theorem ahead_key {a b : Ce} (h : aheadC a b = true) (hk : keyC a b = false) : Op.bytesLess a.k b.k = true := by
 unfold aheadC at h
 have e : (a.k == b.k) = false := by
  unfold keyC at hk
  have : a.k ≠ b.k := by simpa using hk
  simp [this]
 rw [e] at h
 simpa using h
theorem dd_keyUp {R : List (List Ce)} {pre : List Ce} (h : Merged R pre) : KeyUp (dd keyC pre) := by
 obtain ⟨T, rfl, -, hs⟩ := h
 exact (dd_pair like_key T hs).imp fun h => ahead_key h.1 h.2
theorem keyUp_one {l m : List Ce} (hl : KeyUp l) (hm : KeyUp m) (h : ∀ x, x ∈ l ↔ x ∈ m) : l = m := rise_unique hl.rise hm.rise h
def updC (key : List UInt8) (b : Option Ce) (c : Ce) : Option Ce := if decide (c.k = key) && (match b with | none => true | some d => decide (d.q < c.q)) then some c else b
def bestF (F : List Ce) (key : List UInt8) (b : Option Ce) : Option Ce := F.foldl (updC key) b
def bestR (R : List (List Ce)) (key : List UInt8) : Option Ce := bestF R.flatten key none
theorem bestF_snoc (F : List Ce) (c : Ce) (key : List UInt8) (b : Option Ce) : bestF (F ++ [c]) key b = updC key (bestF F key b) c := by simp [bestF]
def Qt (a b : Tc) : Prop := a.2 < b.2 ∨ (a.2 = b.2 ∧ aheadC a.1 b.1 = true)
theorem tagsR_q : ∀ {R : List (List Ce)} {i : Nat}, (∀ r ∈ R, Rise r) → (tagsR i R).Pairwise Qt
 | [], _, _ => .nil
 | r :: R, i, h => by
   refine List.pairwise_append.2 ⟨?_, tagsR_q fun r hr => h r (List.mem_cons_of_mem _ hr), fun a ha b hb => ?_⟩
   · exact List.pairwise_map.2 ((h r List.mem_cons_self).imp fun h => .inr ⟨rfl, h⟩)
   · obtain ⟨c, _, rfl⟩ := List.mem_map.1 ha
     have := tagsR_place hb
     exact .inl (show i < b.2 by omega)
theorem tagsR_fst : ∀ (R : List (List Ce)) (i : Nat), (tagsR i R).map (·.1) = R.flatten
 | [], _ => rfl
 | r :: R, i => by
   show ((r.map fun c => (c, i)) ++ tagsR (i + 1) R).map (·.1) = r ++ R.flatten
   rw [List.map_append, tagsR_fst R (i + 1), List.map_map]
   congr 1
   exact List.map_id' r
theorem tless_q {a b : Tc} (hk : a.1.k = b.1.k) (h : b.1.q < a.1.q) : tless a b = true := ahead_tless (by unfold aheadC; rw [hk]; simp [h])
theorem tless_k {a b : Tc} (hk : a.1.k = b.1.k) (h1 : a.1.q ≤ b.1.q) (h2 : a.1.q = b.1.q → ¬ a.2 < b.2) : tless a b = false := by
 unfold tless aheadC eqC
 rw [hk, bl_irrefl]
 simp
 constructor
 · omega
 · intro h; have := h2 h; omega
theorem best_tags (key : List UInt8) (T : List Tc) : T.Pairwise Qt → (bestF (T.map (·.1)) key none = none ∧ ∀ t ∈ T, t.1.k ≠ key) ∨ ∃ t ∈ T, bestF (T.map (·.1)) key none = some t.1 ∧ t.1.k = key ∧ ∀ u ∈ T, u.1.k = key → tless u t = false := by
 induction T using snoc_ind with
 | h0 => intro _; exact .inl ⟨rfl, by simp⟩
 | h1 T z ih =>
   intro hs
   obtain ⟨h1, -, h3⟩ := List.pairwise_append.1 hs
   rw [List.map_append, List.map_singleton, bestF_snoc]
   by_cases hk : z.1.k = key
   · right
     rcases ih h1 with ⟨e, hn⟩ | ⟨t, ht, e, tk, hb⟩
     · refine ⟨z, by simp, by rw [e]; simp [updC, hk], hk, fun u hu uk => ?_⟩
       rcases List.mem_append.1 hu with hu | hu
       · exact absurd uk (hn u hu)
       · rw [List.mem_singleton.1 hu]; exact tless_irrefl _
     · by_cases hq : t.1.q < z.1.q
       · refine ⟨z, by simp, by rw [e]; simp [updC, hk, hq], hk, fun u hu uk => ?_⟩
         rcases List.mem_append.1 hu with hu | hu
         · exact tless_le (tless_asymm (tless_q (hk.trans tk.symm) hq)) (hb u hu uk)
         · rw [List.mem_singleton.1 hu]; exact tless_irrefl _
       · refine ⟨t, List.mem_append_left _ ht, by rw [e]; simp [updC, hq], tk, fun u hu uk => ?_⟩
         rcases List.mem_append.1 hu with hu | hu
         · exact hb u hu uk
         · rw [List.mem_singleton.1 hu]
           refine tless_k (hk.trans tk.symm) (by omega) fun _ => ?_
           rcases h3 t ht z (by simp) with h | ⟨h, -⟩ <;> omega
   · have e2 : updC key (bestF (T.map (·.1)) key none) z.1 = bestF (T.map (·.1)) key none := by simp [updC, hk]
     rw [e2]
     rcases ih h1 with ⟨e, hn⟩ | ⟨t, ht, e, tk, hb⟩
     · refine .inl ⟨e, fun u hu => ?_⟩
       rcases List.mem_append.1 hu with hu | hu
       · exact hn u hu
       · rw [List.mem_singleton.1 hu]; exact hk
     · refine .inr ⟨t, List.mem_append_left _ ht, e, tk, fun u hu uk => ?_⟩
       rcases List.mem_append.1 hu with hu | hu
       · exact hb u hu uk
       · rw [List.mem_singleton.1 hu] at uk; exact absurd uk hk
theorem best_cases {R : List (List Ce)} (hR : ∀ r ∈ R, Rise r) (key : List UInt8) : (bestR R key = none ∧ ∀ x ∈ R.flatten, x.k ≠ key) ∨ ∃ x, bestR R key = some x ∧ x.k = key ∧ BestR R x := by
 unfold bestR
 rw [← tagsR_fst R 0]
 rcases best_tags key (tagsR 0 R) (tagsR_q hR) with ⟨e, hn⟩ | ⟨t, ht, e, tk, hb⟩
 · refine .inl ⟨e, fun x hx => ?_⟩
   obtain ⟨t, ht, rfl⟩ := List.mem_map.1 hx
   exact hn t ht
 · exact .inr ⟨t.1, e, tk, t, ht, rfl, fun u hu hk => hb u hu (by rw [← tk]; simpa [keyC] using hk)⟩
theorem pair_mem {α : Type} {P : α → α → Prop} (hs : ∀ {a b}, P a b → P b a) : ∀ {l : List α}, l.Pairwise P → ∀ a ∈ l, ∀ b ∈ l, a ≠ b → P a b
 | [], _, a, ha, _, _, _ => by cases ha
 | x :: l, h, a, ha, b, hb, hne => by
   have h1 := List.pairwise_cons.1 h
   rcases List.mem_cons.1 ha with rfl | ha'
   · rcases List.mem_cons.1 hb with rfl | hb'
     · exact absurd rfl hne
     · exact h1.1 b hb'
   · rcases List.mem_cons.1 hb with rfl | hb'
     · exact hs (h1.1 a ha')
     · exact pair_mem hs h1.2 a ha' b hb' hne
theorem best_one {R : List (List Ce)} (hR : ∀ r ∈ R, Rise r) {x y : Ce} (hx : BestR R x) (hy : BestR R y) (hk : x.k = y.k) : x = y := by
 obtain ⟨t, ht, rfl, h1⟩ := hx
 obtain ⟨s, hs, rfl, h2⟩ := hy
 by_cases e : t = s
 · rw [e]
 · have a1 := h1 s hs (by simp [keyC, hk])
   have a2 := h2 t ht (by simp [keyC, hk])
   rcases pair_mem (fun h => h.symm) (tagsR_apart hR) t ht s hs e with h | h
   · rw [a2] at h; cases h
   · rw [a1] at h; cases h
theorem best_sub {R : List (List Ce)} {x : Ce} (h : BestR R x) : x ∈ R.flatten := by
 obtain ⟨t, ht, rfl, -⟩ := h
 rw [← tagsR_fst R 0]
 exact List.mem_map_of_mem ht
theorem best_iff {R : List (List Ce)} (hR : ∀ r ∈ R, Rise r) {key : List UInt8} {x : Ce} : bestR R key = some x ↔ x.k = key ∧ BestR R x := by
 rcases best_cases hR key with ⟨e, hn⟩ | ⟨y, e, hk, hb⟩
 · constructor
   · intro h; rw [e] at h; cases h
   · rintro ⟨h, k⟩; exact absurd h (hn x (best_sub k))
 · constructor
   · intro h; rw [e] at h; cases h; exact ⟨hk, hb⟩
   · rintro ⟨h, k⟩; rw [e, best_one hR hb k (hk.trans h.symm)]
def putK : List (List UInt8) → List UInt8 → List (List UInt8)
 | [], s => [s]
 | a :: l, s => if Op.bytesLess a s then a :: putK l s else if a = s then a :: l else s :: a :: l
def KUp (L : List (List UInt8)) : Prop := L.Pairwise fun a b => Op.bytesLess a b = true
theorem putK_mem {x s : List UInt8} : ∀ {l : List (List UInt8)}, x ∈ putK l s ↔ x = s ∨ x ∈ l
 | [] => by simp [putK]
 | a :: l => by
   rw [putK]
   split
   · rw [List.mem_cons, putK_mem, List.mem_cons]
     constructor
     · rintro (h | h | h)
       · exact .inr (.inl h)
       · exact .inl h
       · exact .inr (.inr h)
     · rintro (h | h | h)
       · exact .inr (.inl h)
       · exact .inl h
       · exact .inr (.inr h)
   · split
     · rename_i h
       rw [List.mem_cons]
       constructor
       · intro h; exact .inr h
       · rintro (h' | h')
         · exact .inl (h'.trans h.symm)
         · exact h'
     · rw [List.mem_cons]
theorem bl_or (a b : List UInt8) : Op.bytesLess a b = true ∨ a = b ∨ Op.bytesLess b a = true := by
 rcases bl_cases a b with ⟨h, _⟩ | ⟨_, _, h⟩ | ⟨_, h, _⟩
 · exact .inl h
 · exact .inr (.inl h)
 · exact .inr (.inr h)
theorem blk_trans {a b c : List UInt8} (h : Op.bytesLess a b = true) (k : Op.bytesLess b c = true) : Op.bytesLess a c = true := by
 have h1 : aheadC ⟨a, 0, []⟩ ⟨b, 0, []⟩ = true := bl_ahead h
 have h2 : aheadC ⟨b, 0, []⟩ ⟨c, 0, []⟩ = true := bl_ahead k
 have h3 := ahead_trans h1 h2
 unfold aheadC at h3
 simpa using h3
theorem putK_up {s : List UInt8} : ∀ {l : List (List UInt8)}, KUp l → KUp (putK l s)
 | [], _ => by simp [putK, KUp]
 | a :: l, h => by
   have h1 := List.pairwise_cons.1 h
   rw [putK]
   by_cases e : Op.bytesLess a s = true
   · rw [if_pos e]
     refine List.pairwise_cons.2 ⟨fun x hx => ?_, putK_up h1.2⟩
     rcases putK_mem.1 hx with rfl | hx
     · exact e
     · exact h1.1 x hx
   · rw [if_neg e]
     by_cases e2 : a = s
     · rw [if_pos e2]; exact h
     · rw [if_neg e2]
       have e3 : Op.bytesLess s a = true := by
        rcases bl_or a s with h | h | h
        · exact absurd h e
        · exact absurd h e2
        · exact h
       refine List.pairwise_cons.2 ⟨fun x hx => ?_, h⟩
       rcases List.mem_cons.1 hx with rfl | hx
       · exact e3
       · exact blk_trans e3 (h1.1 x hx)
def putsK (l : List (List UInt8)) (m : List (List UInt8)) : List (List UInt8) := m.foldl putK l
theorem putsK_up : ∀ {m l : List (List UInt8)}, KUp l → KUp (putsK l m)
 | [], _, h => h
 | s :: m, l, h => putsK_up (m := m) (putK_up h)
theorem putsK_mem {x : List UInt8} : ∀ {m l : List (List UInt8)}, x ∈ putsK l m ↔ x ∈ l ∨ x ∈ m
 | [], l => by simp [putsK]
 | s :: m, l => by
   show x ∈ putsK (putK l s) m ↔ _
   rw [putsK_mem, putK_mem, List.mem_cons]
   constructor
   · rintro ((h | h) | h)
     · exact .inr (.inl h)
     · exact .inl h
     · exact .inr (.inr h)
   · rintro (h | h | h)
     · exact .inl (.inr h)
     · exact .inl (.inl h)
     · exact .inr h
def keysR (R : List (List Ce)) : List (List UInt8) := putsK [] (R.flatten.map (·.k))
theorem keysR_up (R : List (List Ce)) : KUp (keysR R) := putsK_up .nil
theorem keysR_mem {R : List (List Ce)} {key : List UInt8} : key ∈ keysR R ↔ ∃ x ∈ R.flatten, x.k = key := by
 unfold keysR
 rw [putsK_mem, List.mem_map]
 constructor
 · rintro (h | h)
   · cases h
   · exact h
 · exact .inr
def newR (R : List (List Ce)) : List Ce := (keysR R).filterMap (bestR R)
theorem newR_mem {R : List (List Ce)} (hR : ∀ r ∈ R, Rise r) {x : Ce} : x ∈ newR R ↔ BestR R x := by
 unfold newR
 rw [List.mem_filterMap]
 constructor
 · rintro ⟨key, _, h⟩; exact ((best_iff hR).1 h).2
 · intro h; exact ⟨x.k, keysR_mem.2 ⟨x, best_sub h, rfl⟩, (best_iff hR).2 ⟨rfl, h⟩⟩
theorem newR_up {R : List (List Ce)} (hR : ∀ r ∈ R, Rise r) : KeyUp (newR R) := by
 refine List.Pairwise.filterMap (R := fun a b => Op.bytesLess a b = true) (bestR R) ?_ (keysR_up R)
 intro a b h x hx y hy
 rw [((best_iff hR).1 hx).1, ((best_iff hR).1 hy).1]
 exact h
theorem new_eq {R : List (List Ce)} {pre : List Ce} (hR : ∀ r ∈ R, Rise r) (h : Merged R pre) : dd keyC pre = newR R :=
 keyUp_one (dd_keyUp h) (newR_up hR) fun x => by rw [merged_mem like_key h, newR_mem hR]; rfl
theorem tagsR_filter (p : Ce → Bool) : ∀ (R : List (List Ce)) (i : Nat), tagsR i (R.map fun r => r.filter p) = (tagsR i R).filter fun t => p t.1
 | [], _ => rfl
 | r :: R, i => by
   show ((r.filter p).map fun c => (c, i)) ++ tagsR (i + 1) (R.map fun r => r.filter p) = ((r.map fun c => (c, i)) ++ tagsR (i + 1) R).filter _
   rw [tagsR_filter p R (i + 1), List.filter_append, List.filter_map]
   rfl
theorem best_filter {R : List (List Ce)} {p : Ce → Bool} (hp : ∀ a b : Ce, a.k = b.k → p a = p b) {x : Ce} : BestR (R.map fun r => r.filter p) x ↔ BestR R x ∧ p x = true := by
 unfold BestR
 rw [tagsR_filter]
 constructor
 · rintro ⟨t, ht, rfl, hb⟩
   obtain ⟨h1, h2⟩ := List.mem_filter.1 ht
   exact ⟨⟨t, h1, rfl, fun u hu hk => hb u (List.mem_filter.2 ⟨hu, (hp u.1 t.1 (by simpa [keyC] using hk)).trans h2⟩) hk⟩, h2⟩
 · rintro ⟨⟨t, ht, rfl, hb⟩, h2⟩
   exact ⟨t, List.mem_filter.2 ⟨ht, h2⟩, rfl, fun u hu => hb u (List.mem_filter.1 hu).1⟩
theorem filter_rise {R : List (List Ce)} (hR : ∀ r ∈ R, Rise r) (p : Ce → Bool) : ∀ r ∈ R.map (fun r => r.filter p), Rise r := fun r hr => by
 obtain ⟨s, hs, rfl⟩ := List.mem_map.1 hr
 exact rise_filter (hR s hs) p
theorem keyUp_filter {l : List Ce} (h : KeyUp l) (p : Ce → Bool) : KeyUp (l.filter p) := h.sublist List.filter_sublist
theorem new_filter {R : List (List Ce)} (hR : ∀ r ∈ R, Rise r) {p : Ce → Bool} (hp : ∀ a b : Ce, a.k = b.k → p a = p b) : newR (R.map fun r => r.filter p) = (newR R).filter p :=
 keyUp_one (newR_up (filter_rise hR p)) (keyUp_filter (newR_up hR) p) fun x => by rw [newR_mem (filter_rise hR p), best_filter hp, List.mem_filter, newR_mem hR]
theorem within_key (from' to' : List UInt8) (a b : Ce) (h : a.k = b.k) : within from' to' a = within from' to' b := by unfold within; rw [h]
theorem new_range {R : List (List Ce)} (hR : ∀ r ∈ R, Rise r) (a b : List UInt8) : newR (R.map fun r => rangeC r a b) = (newR R).filter (within a b) := new_filter hR (within_key a b)
def cutA (From from' : List UInt8) : List UInt8 := if Op.bytesLess from' From then From else from'
def cutB (To to' : List UInt8) : List UInt8 := if to' = [] then To else if To ≠ [] ∧ Op.bytesLess To to' = true then To else to'
def cutOk (a b : List UInt8) : Bool := decide (b = []) || Op.bytesLess a b
theorem within_cut (From To from' to' : List UInt8) (c : Ce) : within (cutA From from') (cutB To to') c = (within from' to' c && within From To c) := by
 have hA : Op.bytesLess c.k (cutA From from') = (Op.bytesLess c.k from' || Op.bytesLess c.k From) := by
  unfold cutA
  cases h : Op.bytesLess from' From with
  | true =>
    simp only [if_true]
    cases h1 : Op.bytesLess c.k from' with
    | true => rw [blk_trans h1 h]; rfl
    | false => rfl
  | false =>
    simp only [Bool.false_eq_true, if_false]
    cases h1 : Op.bytesLess c.k From with
    | true =>
      cases h2 : Op.bytesLess c.k from' with
      | true => rfl
      | false =>
        rw [bl_le_trans h h1] at h2
        cases h2
    | false => simp
 have hB : (decide (cutB To to' = []) || Op.bytesLess c.k (cutB To to')) = ((decide (to' = []) || Op.bytesLess c.k to') && (decide (To = []) || Op.bytesLess c.k To)) := by
  unfold cutB
  by_cases h1 : to' = []
  · rw [if_pos h1]; simp [h1]
  · rw [if_neg h1]
    by_cases h2 : To ≠ [] ∧ Op.bytesLess To to' = true
    · rw [if_pos h2]
      simp only [h1, decide_false, Bool.false_or, h2.1]
      cases h3 : Op.bytesLess c.k To with
      | true => rw [blk_trans h3 h2.2]; rfl
      | false => simp
    · rw [if_neg h2]
      simp only [h1, decide_false, Bool.false_or]
      by_cases h4 : To = []
      · simp [h4]
      · simp only [h4, decide_false, Bool.false_or]
        have h5 : Op.bytesLess To to' = false := by
         cases e : Op.bytesLess To to' with
         | false => rfl
         | true => exact absurd ⟨h4, e⟩ h2
        cases h6 : Op.bytesLess c.k to' with
        | false => simp
        | true =>
          cases h7 : Op.bytesLess c.k To with
          | true => rfl
          | false =>
            rw [bl_le_trans h5 h6] at h7
            cases h7
 unfold within
 rw [hA, hB]
 cases Op.bytesLess c.k from' <;> cases Op.bytesLess c.k From <;> simp
theorem within_none {a b : List UInt8} (h : cutOk a b = false) (c : Ce) : within a b c = false := by
 unfold cutOk at h
 rw [Bool.or_eq_false_iff, decide_eq_false_iff_not] at h
 unfold within
 cases h1 : Op.bytesLess c.k a with
 | true => rfl
 | false =>
   cases h2 : Op.bytesLess c.k b with
   | false => simp [h.1]
   | true => have := bl_le_trans h.2 h2; rw [h1] at this; cases this
def tabR (From To : List UInt8) (R : List (List Ce)) (from' to' : List UInt8) : List Ce := (newR R).filter fun c => within from' to' c && within From To c
theorem tabR_cut {From To : List UInt8} {R : List (List Ce)} (hR : ∀ r ∈ R, Rise r) (from' to' : List UInt8) : newR (R.map fun r => rangeC r (cutA From from') (cutB To to')) = tabR From To R from' to' := by
 rw [new_range hR]
 unfold tabR
 congr 1
 funext c
 exact within_cut From To from' to' c
theorem tabR_none {From To : List UInt8} {R : List (List Ce)} (from' to' : List UInt8) (h : cutOk (cutA From from') (cutB To to') = false) : tabR From To R from' to' = [] := by
 unfold tabR
 rw [List.filter_eq_nil_iff]
 intro c _
 rw [← within_cut, within_none h c]
 simp
def getRows (R : List (List Ce)) (key : List UInt8) (b : Option Ce) : Option Ce := R.foldl (fun b r => match findC r key with | none => b | some c => updC key b c) b
theorem findC_key {r : List Ce} {key : List UInt8} {c : Ce} (h : findC r key = some c) : c.k = key := by
 unfold findC at h
 simpa using List.find?_some h
theorem updC_keep {key : List UInt8} {b : Option Ce} {c d : Ce} (h : b = some d) (hq : c.k = key → c.q ≤ d.q) : updC key b c = b := by
 subst h
 unfold updC
 by_cases hk : c.k = key
 · have := hq hk
   have e : ¬ d.q < c.q := by omega
   simp [e]
 · simp [hk]
theorem updC_some {key : List UInt8} {b : Option Ce} {c : Ce} (hk : c.k = key) : ∃ d, updC key b c = some d ∧ c.q ≤ d.q := by
 unfold updC
 cases b with
 | none => exact ⟨c, by simp [hk], by omega⟩
 | some d =>
   by_cases h : d.q < c.q
   · exact ⟨c, by simp [hk, h], by omega⟩
   · exact ⟨d, by simp [h], by omega⟩
theorem ahead_same_key {a b : Ce} (h : aheadC a b = true) (hk : a.k = b.k) : b.q < a.q := by
 unfold aheadC at h
 rw [hk, bl_irrefl] at h
 simpa using h
theorem bestF_keep {key : List UInt8} {d : Ce} : ∀ {r : List Ce}, (∀ x ∈ r, x.k = key → x.q ≤ d.q) → bestF r key (some d) = some d
 | [], _ => rfl
 | c :: r, h => by
   show bestF r key (updC key (some d) c) = _
   rw [updC_keep rfl (h c List.mem_cons_self)]
   exact bestF_keep fun x hx => h x (List.mem_cons_of_mem _ hx)
theorem bestF_row {key : List UInt8} : ∀ {r : List Ce} (b : Option Ce), Rise r → bestF r key b = (match findC r key with | none => b | some c => updC key b c)
 | [], b, _ => rfl
 | c :: r, b, h => by
   have h1 := List.pairwise_cons.1 h
   show bestF r key (updC key b c) = _
   unfold findC
   rw [List.find?_cons]
   by_cases hk : c.k = key
   · rw [show decide (c.k = key) = true by simp [hk]]
     obtain ⟨d, e, hq⟩ := updC_some (b := b) hk
     show bestF r key (updC key b c) = updC key b c
     rw [e]
     exact bestF_keep fun x hx xk => by
      have := ahead_same_key (h1.1 x hx) (hk.trans xk.symm)
      omega
   · rw [show decide (c.k = key) = false by simp [hk]]
     have e : updC key b c = b := by simp [updC, hk]
     rw [e, bestF_row b h1.2]
     rfl
theorem getRows_eq {key : List UInt8} : ∀ {R : List (List Ce)} (b : Option Ce), (∀ r ∈ R, Rise r) → getRows R key b = bestF R.flatten key b
 | [], b, _ => rfl
 | r :: R, b, h => by
   show getRows R key (match findC r key with | none => b | some c => updC key b c) = bestF (r ++ R.flatten) key b
   rw [← bestF_row b (h r List.mem_cons_self), getRows_eq _ fun s hs => h s (List.mem_cons_of_mem _ hs)]
   unfold bestF
   rw [List.foldl_append]
def inTab (From To key : List UInt8) : Bool := !Op.bytesLess key From && (decide (To = []) || Op.bytesLess key To)
def getT (From To : List UInt8) (R : List (List Ce)) (key : List UInt8) : Option Ce := if inTab From To key then bestR R key else none
def orU (key : List UInt8) (b : Option Ce) : Option Ce → Option Ce
 | none => b
 | some c => updC key b c
theorem getRows_snoc (R : List (List Ce)) (r : List Ce) (key : List UInt8) (b : Option Ce) : getRows (R ++ [r]) key b = orU key (getRows R key b) (findC r key) := by
 unfold getRows
 rw [List.foldl_append]
 show (match findC r key with | none => _ | some c => updC key _ c) = _
 cases findC r key <;> rfl
theorem inTab_within (F T : List UInt8) (c : Ce) : within F T c = inTab F T c.k := rfl
theorem tabR_mem {F T : List UInt8} {R : List (List Ce)} (h : ∀ r ∈ R, Rise r) {x y : List UInt8} {c : Ce} : c ∈ tabR F T R x y ↔ bestR R c.k = some c ∧ within x y c = true ∧ inTab F T c.k = true := by
 unfold tabR
 rw [List.mem_filter, newR_mem h, Bool.and_eq_true, inTab_within]
 constructor
 · rintro ⟨h1, h2⟩; exact ⟨(best_iff h).2 ⟨rfl, h1⟩, h2⟩
 · rintro ⟨h1, h2⟩; exact ⟨((best_iff h).1 h1).2, h2⟩
theorem tabR_up {F T : List UInt8} {R : List (List Ce)} (h : ∀ r ∈ R, Rise r) (x y : List UInt8) : KeyUp (tabR F T R x y) := keyUp_filter (newR_up h) _
theorem putK_length (s : List UInt8) : ∀ l : List (List UInt8), (putK l s).length ≤ l.length + 1
 | [] => by simp [putK]
 | a :: l => by
   rw [putK]
   split
   · have := putK_length s l; simp; omega
   · split <;> simp
theorem putsK_length : ∀ (m l : List (List UInt8)), (putsK l m).length ≤ l.length + m.length
 | [], l => by simp [putsK]
 | s :: m, l => by
   have h1 := putsK_length m (putK l s)
   have h2 := putK_length s l
   show (putsK (putK l s) m).length ≤ _
   rw [List.length_cons]
   omega
theorem tabR_length (F T : List UInt8) (R : List (List Ce)) (x y : List UInt8) : (tabR F T R x y).length ≤ (R.map (·.length)).sum := by
 unfold tabR newR
 refine Nat.le_trans (List.length_filter_le _ _) (Nat.le_trans (List.length_filterMap_le _ _) ?_)
 have := putsK_length (R.flatten.map (·.k)) []
 rw [List.length_nil, Nat.zero_add, List.length_map, List.length_flatten] at this
 exact this
theorem tabR_sub {F T : List UInt8} {R : List (List Ce)} (h : ∀ r ∈ R, Rise r) {x y : List UInt8} {c : Ce} (hc : c ∈ tabR F T R x y) : ∃ r ∈ R, c ∈ r := by
 have h1 := (List.mem_filter.1 hc).1
 have h2 := best_sub ((newR_mem h).1 h1)
 obtain ⟨r, hr, hcr⟩ := List.mem_flatten.1 h2
 exact ⟨r, hr, hcr⟩
theorem BestR.key {R : List (List Ce)} {x : Ce} (h : BestR R x) : (∀ y ∈ R.flatten, y.k = x.k → y.q ≤ x.q) := by
 obtain ⟨t, ht, rfl, hb⟩ := h
 intro y hy hk
 rw [← tagsR_fst R 0] at hy
 obtain ⟨u, hu, rfl⟩ := List.mem_map.1 hy
 have h1 := hb u hu (by simp [keyC, hk])
 rcases Int.lt_or_le t.1.q u.1.q with h | h
 · rw [tless_q hk h] at h1; cases h1
 · exact h
end Spoor
