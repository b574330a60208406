/- Plain facts, no program in sight: a memory's cells in pages, what is put in, and what lies in a stretch. -/
import Derived.Test.YtpcapifjbhaeeaaBlocks0
namespace Spoor
open Go

/-- are two cells of one key and Seq? -/
def sameC (a b : Ce) : Bool := decide (a.k = b.k) && decide (a.q = b.q)
theorem ahead_or (a b : Ce) : aheadC a b = true ∨ aheadC b a = true ∨ sameC a b = true := by
  unfold aheadC sameC
  cases h1 : Op.bytesLess a.k b.k with
  | true => left; rfl
  | false =>
    cases h2 : Op.bytesLess b.k a.k with
    | true => right; left; rfl
    | false =>
      have h := bl_total h1 h2
      rw [h]
      rcases Int.lt_trichotomy a.q b.q with k | k | k
      · right; left; simp [k]
      · right; right; simp [k]
      · left; simp [k]
theorem ahead_anti {a b : Ce} (h : aheadC a b = true) : aheadC b a = false := by
  cases e : aheadC b a with
  | false => rfl
  | true => have := ahead_trans h e; rw [ahead_irrefl] at this; cases this
theorem ahead_same_l {a b c : Ce} (h : sameC a b = true) : aheadC a c = aheadC b c := by
  unfold sameC at h
  simp only [Bool.and_eq_true, decide_eq_true_eq] at h
  unfold aheadC
  rw [h.1, h.2]
theorem ahead_same_r {a b c : Ce} (h : sameC a b = true) : aheadC c a = aheadC c b := by
  unfold sameC at h
  simp only [Bool.and_eq_true, decide_eq_true_eq] at h
  unfold aheadC
  rw [h.1, h.2]
theorem sameC_symm {a b : Ce} (h : sameC a b = true) : sameC b a = true := by
  unfold sameC at h ⊢
  simp only [Bool.and_eq_true, decide_eq_true_eq] at h ⊢
  exact ⟨h.1.symm, h.2.symm⟩
theorem ahead_not_same {a b : Ce} (h : aheadC a b = true) : sameC a b = false := by
  cases e : sameC a b with
  | false => rfl
  | true => rw [ahead_same_l e, ahead_irrefl] at h; cases h
/-- one cell more -/
def insC (c : Ce) : List Ce → List Ce
  | [] => [c]
  | x :: l => if aheadC x c = true then x :: insC c l else if sameC x c = true then x :: l else c :: x :: l
/-- each ahead of the next ones -/
def Rise (l : List Ce) : Prop := l.Pairwise fun a b => aheadC a b = true
theorem insC_app {c : Ce} : ∀ {A : List Ce} (B : List Ce), (∀ x ∈ A, aheadC x c = true) → insC c (A ++ B) = A ++ insC c B
  | [], _, _ => rfl
  | x :: A, B, h => by
    rw [List.cons_append, insC, if_pos (h x (by simp)), insC_app B (fun y hy => h y (by simp [hy]))]
    rfl
theorem insC_head {c : Ce} : ∀ (A : List Ce) {B : List Ce}, (∀ b, B.head? = some b → aheadC c b = true) → insC c (A ++ B) = insC c A ++ B
  | [], [], _ => rfl
  | [], b :: B, h => by
    have := h b rfl
    have hs : sameC b c = false := by
      cases e : sameC b c with
      | false => rfl
      | true => have := sameC_symm e; rw [ahead_not_same (h b rfl)] at this; cases this
    show insC c (b :: B) = [c] ++ b :: B
    unfold insC
    rw [if_neg (by rw [ahead_anti this]; simp), if_neg (by rw [hs]; simp)]
    rfl
  | x :: A, B, h => by
    rw [List.cons_append, insC, insC]
    split
    · rw [insC_head A h]; rfl
    · split <;> rfl
theorem insC_mem {c x : Ce} : ∀ {l : List Ce}, x ∈ insC c l → x = c ∨ x ∈ l
  | [], h => by simp [insC] at h; exact .inl h
  | y :: l, h => by
    rw [insC] at h
    split at h
    · rcases List.mem_cons.1 h with h | h
      · right; simp [h]
      · rcases insC_mem h with h | h
        · exact .inl h
        · right; simp [h]
    · split at h
      · exact .inr h
      · rcases List.mem_cons.1 h with h | h
        · exact .inl h
        · exact .inr h
theorem insC_rise {c : Ce} : ∀ {l : List Ce}, Rise l → Rise (insC c l)
  | [], _ => by simp [insC, Rise]
  | x :: l, h => by
    have h2 := List.pairwise_cons.1 h
    rw [insC]
    split
    · rename_i hx
      refine List.pairwise_cons.2 ⟨?_, insC_rise h2.2⟩
      intro y hy
      rcases insC_mem hy with rfl | hy
      · exact hx
      · exact h2.1 y hy
    · rename_i hx
      split
      · exact h
      · rename_i hs
        have hcx : aheadC c x = true := by
          rcases ahead_or x c with e | e | e
          · exact absurd e hx
          · exact e
          · exact absurd e hs
        refine List.pairwise_cons.2 ⟨?_, h⟩
        intro y hy
        rcases List.mem_cons.1 hy with rfl | hy
        · exact hcx
        · exact ahead_trans hcx (h2.1 y hy)
theorem insC_length {c : Ce} : ∀ (l : List Ce), (insC c l).length ≤ l.length + 1
  | [] => by simp [insC]
  | x :: l => by
    rw [insC]
    split
    · have := insC_length (c := c) l; simp; omega
    · split <;> simp
/-- where it goes: by the place of the first one that is not ahead -/
theorem insC_at {c : Ce} {l : List Ce} {k : Nat} (h1 : ∀ i, i < k → aheadC (l.getD i Ce.zero) c = true) (hk : k ≤ l.length) (h2 : k < l.length → aheadC (l.getD k Ce.zero) c = false) :
    insC c l = if k < l.length ∧ sameC (l.getD k Ce.zero) c = true then l else l.take k ++ c :: l.drop k := by
  have e : insC c l = l.take k ++ insC c (l.drop k) := by
    conv => lhs; rw [← List.take_append_drop k l]
    refine insC_app _ ?_
    intro x hx
    obtain ⟨i, hi, rfl⟩ := List.getElem_of_mem hx
    have hi2 : i < k := by rw [List.length_take] at hi; omega
    have := h1 i hi2
    rw [show l.getD i Ce.zero = (l.take k)[i] by simp [List.getD, show i < l.length by omega]] at this
    exact this
  rw [e]
  by_cases hkl : k < l.length
  · have hd : l.drop k = l.getD k Ce.zero :: l.drop (k + 1) := by
      rw [List.drop_eq_getElem_cons hkl]
      simp [List.getD, hkl]
    rw [hd, insC, if_neg (by rw [h2 hkl]; simp)]
    by_cases hs : sameC (l.getD k Ce.zero) c = true
    · rw [if_pos hs, if_pos ⟨hkl, hs⟩, ← hd, List.take_append_drop]
    · rw [if_neg hs, if_neg (fun h => hs h.2)]
  · have hd : l.drop k = [] := List.drop_eq_nil_of_le (by omega)
    rw [hd, insC, if_neg (fun h => hkl h.1)]
/-- what is laid in, one by one: those that may be -/
def putC (l : List Ce) (c : Ce) : List Ce := if c.may then insC c l else l
def putsC (l m : List Ce) : List Ce := m.foldl putC l
theorem putsC_snoc (l m : List Ce) (c : Ce) : putsC l (m ++ [c]) = putC (putsC l m) c := by simp [putsC]
theorem putC_rise {c : Ce} {l : List Ce} (h : Rise l) : Rise (putC l c) := by
  unfold putC
  split
  · exact insC_rise h
  · exact h
theorem putC_length (c : Ce) (l : List Ce) : (putC l c).length ≤ l.length + 1 := by
  unfold putC
  split
  · exact insC_length l
  · omega
theorem putC_mem {c x : Ce} {l : List Ce} (h : x ∈ putC l c) : (x = c ∧ c.may = true) ∨ x ∈ l := by
  unfold putC at h
  split at h
  · rename_i hm
    rcases insC_mem h with h | h
    · exact .inl ⟨h, hm⟩
    · exact .inr h
  · exact .inr h
/-- pages: none empty, none too full, all cells may be and rise -/
structure PagesOk (gs : List (List Ce)) : Prop where
  some : ∀ g ∈ gs, 0 < g.length ∧ g.length ≤ 16
  rise : Rise gs.flatten
  may : ∀ c ∈ gs.flatten, c.may = true
/-- the page in which a cell is, or would be -/
def pageOf (gs : List (List Ce)) (c : Ce) : Nat := (gs.takeWhile fun g => !aheadC c (g.headD Ce.zero)).length - 1
/-- a page that is too full is two -/
def partG (g : List Ce) : List (List Ce) := if 16 < g.length then [g.take (g.length / 2), g.drop (g.length / 2)] else [g]
def putG (gs : List (List Ce)) (c : Ce) : List (List Ce) :=
  if gs = [] then [[c]] else gs.take (pageOf gs c) ++ partG (insC c (gs.getD (pageOf gs c) [])) ++ gs.drop (pageOf gs c + 1)
theorem partG_flat (g : List Ce) : (partG g).flatten = g := by
  unfold partG
  split
  · simp
  · simp
theorem getD_page {gs : List (List Ce)} {i : Nat} (h : i < gs.length) : gs.getD i [] ∈ gs := by
  simp [List.getD, h]
theorem head_mem {g : List Ce} (h : 0 < g.length) : g.headD Ce.zero ∈ g := by
  cases g with
  | nil => simp at h
  | cons x g => simp
theorem flat_split {gs : List (List Ce)} {k : Nat} (h : k < gs.length) : gs.flatten = (gs.take k).flatten ++ (gs.getD k [] ++ (gs.drop (k + 1)).flatten) := by
  conv => lhs; rw [← List.take_append_drop k gs, List.drop_eq_getElem_cons h]
  rw [List.flatten_append, List.flatten_cons]
  simp [List.getD, h]
theorem pageOf_facts {gs : List (List Ce)} {c : Ce} {t : Nat} (ht1 : ∀ i, i < t → aheadC c ((gs.getD i []).headD Ce.zero) = false) (ht2 : ∀ i, t ≤ i → i < gs.length → aheadC c ((gs.getD i []).headD Ce.zero) = true) (ht : t ≤ gs.length) : pageOf gs c = t - 1 := by
  have : ∀ (gs : List (List Ce)) (t : Nat), t ≤ gs.length → (∀ i, i < t → aheadC c ((gs.getD i []).headD Ce.zero) = false) → (∀ i, t ≤ i → i < gs.length → aheadC c ((gs.getD i []).headD Ce.zero) = true) → (gs.takeWhile fun g => !aheadC c (g.headD Ce.zero)).length = t := by
    intro gs
    induction gs with
    | nil => intro t ht _ _; simp at ht; simp [ht]
    | cons g gs ih =>
      intro t ht h1 h2
      cases t with
      | zero =>
        have := h2 0 (by omega) (by simp)
        simp only [List.getD_cons_zero] at this
        rw [List.takeWhile_cons, this]
        rfl
      | succ t =>
        have h0 := h1 0 (by omega)
        simp only [List.getD_cons_zero] at h0
        rw [List.takeWhile_cons, h0]
        simp only [Bool.not_false, if_true, List.length_cons]
        rw [ih t (by simpa using ht) (fun i hi => by simpa using h1 (i + 1) (by omega)) (fun i hi hl => by simpa using h2 (i + 1) (by omega) (by simpa using hl))]
  unfold pageOf
  rw [this gs t ht ht1 ht2]
theorem rise_app {A B : List Ce} : Rise (A ++ B) ↔ Rise A ∧ Rise B ∧ ∀ a ∈ A, ∀ b ∈ B, aheadC a b = true := List.pairwise_append
theorem rise_nodup_head {g : List Ce} (h : Rise g) : ∀ x ∈ g, aheadC (g.headD Ce.zero) x = true ∨ x = g.headD Ce.zero := by
  cases g with
  | nil => intro x hx; cases hx
  | cons y g =>
    intro x hx
    rcases List.mem_cons.1 hx with rfl | hx
    · right; rfl
    · left; exact (List.pairwise_cons.1 h).1 x hx
/-- the page in which a cell is, or would be: all ahead of it is ahead of the cell, all behind it behind -/
theorem put_at {gs : List (List Ce)} (ok : PagesOk gs) {c : Ce} {t : Nat} (hn : 0 < gs.length) (ht1 : ∀ i, i < t → aheadC c ((gs.getD i []).headD Ce.zero) = false) (ht2 : ∀ i, t ≤ i → i < gs.length → aheadC c ((gs.getD i []).headD Ce.zero) = true) (ht : t ≤ gs.length) :
    insC c gs.flatten = (gs.take (t - 1)).flatten ++ (insC c (gs.getD (t - 1) []) ++ (gs.drop (t - 1 + 1)).flatten) := by
  have hk : t - 1 < gs.length := by omega
  rw [flat_split hk]
  have hr := ok.rise
  rw [flat_split hk, rise_app] at hr
  rw [insC_app, insC_head]
  · intro b hb
    by_cases h2 : t - 1 + 1 < gs.length
    · have hd : gs.drop (t - 1 + 1) = gs.getD (t - 1 + 1) [] :: gs.drop (t - 1 + 1 + 1) := by
        rw [List.drop_eq_getElem_cons h2]; simp [List.getD, h2]
      have hl := (ok.some _ (getD_page h2)).1
      rw [hd, List.flatten_cons, List.head?_append] at hb
      have hg : (gs.getD (t - 1 + 1) []).head? = some ((gs.getD (t - 1 + 1) []).headD Ce.zero) := by
        cases hg : gs.getD (t - 1 + 1) [] with
        | nil => rw [hg] at hl; simp at hl
        | cons x l => rfl
      rw [hg] at hb
      simp only [Option.some_or, Option.some.injEq] at hb
      rw [← hb]
      exact ht2 _ (by omega) h2
    · rw [List.drop_eq_nil_of_le (by omega)] at hb
      cases hb
  · intro x hx
    by_cases h0 : t = 0
    · subst h0
      simp at hx
    · have hl := (ok.some _ (getD_page hk)).1
      have h1 := hr.2.2 x hx _ (List.mem_append_left _ (head_mem hl))
      have h2 := ht1 (t - 1) (by omega)
      rcases ahead_or c ((gs.getD (t - 1) []).headD Ce.zero) with e | e | e
      · rw [h2] at e; cases e
      · exact ahead_trans h1 e
      · rw [ahead_same_r e]; exact h1
theorem putG_flat {gs : List (List Ce)} (ok : PagesOk gs) {c : Ce} {t : Nat} (hn : 0 < gs.length) (ht1 : ∀ i, i < t → aheadC c ((gs.getD i []).headD Ce.zero) = false) (ht2 : ∀ i, t ≤ i → i < gs.length → aheadC c ((gs.getD i []).headD Ce.zero) = true) (ht : t ≤ gs.length) :
    (gs.take (t - 1) ++ partG (insC c (gs.getD (t - 1) [])) ++ gs.drop (t - 1 + 1)).flatten = insC c gs.flatten := by
  rw [put_at ok hn ht1 ht2 ht, List.flatten_append, List.flatten_append, partG_flat, List.append_assoc]
theorem partG_some {g : List Ce} (h : 0 < g.length) (h2 : g.length ≤ 17) : ∀ x ∈ partG g, 0 < x.length ∧ x.length ≤ 16 := by
  intro x hx
  unfold partG at hx
  split at hx
  · rename_i hl
    rcases List.mem_cons.1 hx with rfl | hx
    · rw [List.length_take]; omega
    · rcases List.mem_cons.1 hx with rfl | hx
      · rw [List.length_drop]; omega
      · cases hx
  · simp only [List.mem_singleton] at hx
    subst hx
    omega
theorem insC_some (c : Ce) (l : List Ce) : 0 < (insC c l).length := by
  cases l with
  | nil => simp [insC]
  | cons x l =>
    rw [insC]
    split
    · simp
    · split <;> simp
theorem put_ok {gs : List (List Ce)} (ok : PagesOk gs) {c : Ce} (hm : c.may = true) {t : Nat} (hn : 0 < gs.length) (ht1 : ∀ i, i < t → aheadC c ((gs.getD i []).headD Ce.zero) = false) (ht2 : ∀ i, t ≤ i → i < gs.length → aheadC c ((gs.getD i []).headD Ce.zero) = true) (ht : t ≤ gs.length) :
    PagesOk (gs.take (t - 1) ++ partG (insC c (gs.getD (t - 1) [])) ++ gs.drop (t - 1 + 1)) := by
  have hk : t - 1 < gs.length := by omega
  refine ⟨?_, ?_, ?_⟩
  · intro g hg
    rcases List.mem_append.1 hg with hg | hg
    · rcases List.mem_append.1 hg with hg | hg
      · exact ok.some g (List.mem_of_mem_take hg)
      · have := (ok.some _ (getD_page hk)).2
        have := insC_length (c := c) (gs.getD (t - 1) [])
        exact partG_some (insC_some _ _) (by omega) g hg
    · exact ok.some g (List.mem_of_mem_drop hg)
  · rw [putG_flat ok hn ht1 ht2 ht]
    exact insC_rise ok.rise
  · rw [putG_flat ok hn ht1 ht2 ht]
    intro x hx
    rcases insC_mem hx with rfl | hx
    · exact hm
    · exact ok.may x hx
theorem first_ok {c : Ce} (hm : c.may = true) : PagesOk [[c]] := ⟨by simp, by simp [Rise], by simp [hm]⟩
/-- which keys lie in a stretch -/
def within (from' to : List UInt8) (c : Ce) : Bool := !Op.bytesLess c.k from' && (decide (to = []) || Op.bytesLess c.k to)
def rangeC (l : List Ce) (from' to : List UInt8) : List Ce := l.filter (within from' to)
def findC (l : List Ce) (key : List UInt8) : Option Ce := l.find? fun c => decide (c.k = key)
theorem key_next (a b : List UInt8) : Op.bytesLess a (b ++ [0]) = !Op.bytesLess b a := by
  cases h : Op.bytesLess b a with
  | true =>
    cases e : Op.bytesLess a (b ++ [0]) with
    | false => rfl
    | true =>
      exfalso
      have key : ∀ a b : List UInt8, Op.bytesLess b a = true → Op.bytesLess a (b ++ [0]) = true → False := by
        intro a
        induction a with
        | nil => intro b h; cases b <;> simp [Op.bytesLess] at h
        | cons x a ih =>
          intro b h e
          cases b with
          | nil =>
            cases a <;> simp [Op.bytesLess] at e
          | cons y b =>
            simp only [List.cons_append, Op.bytesLess, Bool.or_eq_true, decide_eq_true_eq, Bool.and_eq_true, beq_iff_eq, UInt8.lt_iff_toNat_lt] at h e
            rcases h with h | ⟨h0, h⟩
            · rcases e with e | ⟨e0, e⟩
              · omega
              · rw [e0] at h; omega
            · rcases e with e | ⟨e0, e⟩
              · rw [h0] at e; omega
              · exact ih b h e
      exact key a b h e
  | false =>
    show Op.bytesLess a (b ++ [0]) = true
    have key : ∀ a b : List UInt8, Op.bytesLess b a = false → Op.bytesLess a (b ++ [0]) = true := by
      intro a
      induction a with
      | nil => intro b _; cases b <;> simp [Op.bytesLess]
      | cons x a ih =>
        intro b h
        cases b with
        | nil => simp [Op.bytesLess] at h
        | cons y b =>
          simp only [List.cons_append, Op.bytesLess, Bool.or_eq_false_iff, decide_eq_false_iff_not, Bool.and_eq_false_iff, beq_eq_false_iff_ne, UInt8.lt_iff_toNat_lt] at h
          simp only [List.cons_append, Op.bytesLess, Bool.or_eq_true, decide_eq_true_eq, Bool.and_eq_true, beq_iff_eq, UInt8.lt_iff_toNat_lt]
          by_cases hx : x.toNat < y.toNat
          · left; exact hx
          · have hxy : x = y := UInt8.toNat_inj.1 (by omega)
            right
            refine ⟨hxy, ih b ?_⟩
            rcases h.2 with h | h
            · exact absurd hxy.symm h
            · exact h
    exact key a b h
theorem within_one (key : List UInt8) (c : Ce) : within key (key ++ [0]) c = decide (c.k = key) := by
  unfold within
  rw [key_next]
  simp only [List.append_eq_nil_iff, List.cons_ne_self, and_false, decide_false, Bool.false_or]
  cases h1 : Op.bytesLess c.k key with
  | true =>
    have : c.k ≠ key := fun e => by rw [e, bl_irrefl] at h1; cases h1
    simp [this]
  | false =>
    cases h2 : Op.bytesLess key c.k with
    | true =>
      have : c.k ≠ key := fun e => by rw [e, bl_irrefl] at h2; cases h2
      simp [this]
    | false => simp [bl_total h1 h2]
theorem rangeC_one (l : List Ce) (key : List UInt8) : (rangeC l key (key ++ [0])).head? = findC l key := by
  unfold rangeC findC
  rw [List.head?_filter]
  congr 1
  funext c
  exact within_one key c
theorem within_all (c : Ce) : within [] [] c = true := by
  unfold within
  cases h : c.k <;> simp [Op.bytesLess]
theorem rangeC_all (l : List Ce) : rangeC l [] [] = l := List.filter_eq_self.2 fun c _ => within_all c
/-- where the first one of a key, or behind it, stands -/
theorem key_mono {a b : Ce} (h : aheadC a b = true) {key : List UInt8} (hb : Op.bytesLess b.k key = true) : Op.bytesLess a.k key = true := by
  unfold aheadC at h
  simp only [Bool.or_eq_true, Bool.and_eq_true, beq_iff_eq] at h
  rcases h with h | h
  · exact bl_trans h hb
  · rw [h.1]; exact hb
theorem bl_le_trans {a b key : List UInt8} (h : Op.bytesLess a key = false) (k : Op.bytesLess b key = true) : Op.bytesLess b a = true := by
  cases e : Op.bytesLess b a with
  | true => rfl
  | false =>
    cases f : Op.bytesLess a b with
    | true => rw [bl_trans f k] at h; cases h
    | false => rw [bl_total e f, h] at k; cases k
theorem rangeC_app (l m : List Ce) (from' to : List UInt8) : rangeC (l ++ m) from' to = rangeC l from' to ++ rangeC m from' to := by simp [rangeC]
theorem rangeC_flat (gs : List (List Ce)) (from' to : List UInt8) : rangeC gs.flatten from' to = (gs.map fun g => rangeC g from' to).flatten := by
  induction gs with
  | nil => rfl
  | cons g gs ih => rw [List.flatten_cons, rangeC_app, ih]; rfl
/-- the cells of a stretch stand side by side -/
theorem rangeC_cut {l : List Ce} {from' to : List UInt8} {a z : Nat} (ha1 : ∀ i, i < a → Op.bytesLess (l.getD i Ce.zero).k from' = true) (ha2 : ∀ i, a ≤ i → i < l.length → Op.bytesLess (l.getD i Ce.zero).k from' = false)
    (hz : (to = [] ∧ z = l.length) ∨ (to ≠ [] ∧ (∀ i, i < z → i < l.length → a ≤ i → Op.bytesLess (l.getD i Ce.zero).k to = true) ∧ (∀ i, z ≤ i → i < l.length → Op.bytesLess (l.getD i Ce.zero).k to = false))) (haz : a ≤ z) (hzl : z ≤ l.length) :
    rangeC l from' to = (l.drop a).take (z - a) := by
  have e : l = l.take a ++ ((l.drop a).take (z - a) ++ l.drop z) := by
    have h1 : l.drop z = (l.drop a).drop (z - a) := by rw [List.drop_drop]; congr 1; omega
    rw [h1, List.take_append_drop, List.take_append_drop]
  have getD_of : ∀ i (h : i < l.length), l.getD i Ce.zero = l[i] := fun i h => by simp [List.getD, h]
  have e1 : rangeC (l.take a) from' to = [] := by
    refine List.filter_eq_nil_iff.2 ?_
    intro x hx
    obtain ⟨i, hi, rfl⟩ := List.getElem_of_mem hx
    rw [List.length_take] at hi
    have := ha1 i (by omega)
    rw [getD_of i (by omega)] at this
    rw [List.getElem_take]
    unfold within
    simp [this]
  have e2 : rangeC ((l.drop a).take (z - a)) from' to = (l.drop a).take (z - a) := by
    refine List.filter_eq_self.2 ?_
    intro x hx
    obtain ⟨i, hi, rfl⟩ := List.getElem_of_mem hx
    rw [List.length_take, List.length_drop] at hi
    have h2 := ha2 (a + i) (by omega) (by omega)
    rw [getD_of _ (by omega)] at h2
    rw [List.getElem_take, List.getElem_drop]
    unfold within
    rw [h2]
    rcases hz with hz | hz
    · simp [hz.1]
    · have := hz.2.1 (a + i) (by omega) (by omega) (by omega)
      rw [getD_of _ (by omega)] at this
      rw [this]
      simp
  have e3 : rangeC (l.drop z) from' to = [] := by
    refine List.filter_eq_nil_iff.2 ?_
    intro x hx
    obtain ⟨i, hi, rfl⟩ := List.getElem_of_mem hx
    rw [List.length_drop] at hi
    rw [List.getElem_drop]
    unfold within
    rcases hz with hz | hz
    · omega
    · have := hz.2.2 (z + i) (by omega) (by omega)
      rw [getD_of _ (by omega)] at this
      rw [this]
      simp [hz.1]
  conv => lhs; rw [e]
  rw [rangeC_app, rangeC_app, e1, e2, e3]
  simp
end Spoor
