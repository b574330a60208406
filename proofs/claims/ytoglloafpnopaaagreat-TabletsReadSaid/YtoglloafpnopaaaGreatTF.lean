/- Plain facts, no program in sight: a memory's cells in pages, what is put in, and what lies in a stretch. Plain facts, no program in sight: the laws of a memory. append, however many are appended, none too, and whatever the slice type of what is appended. copy and append at elements of several cells, as steps of a walk: the row that is written, written out. -/
import Derived.Test.YtoglloafpnopaaaGreatTC
import Derived.Laws.AppendOwnNone
import Derived.OwnWalk
import Derived.Deep.AppendLies
import Derived.Laws.CopyRow
import Derived.Lib.AppendZerosOnto
import Derived.Laws.Externs
import Derived.Lib.Overlaps
import Derived.Deep.RegionLaw
set_option linter.unusedSimpArgs false
set_option linter.unusedVariables false
namespace Spoor
open Go
def sameC (a b : Ce) : Bool := decide (a.k = b.k) && decide (a.q = b.q)
theorem ahead_or (a b : Ce) : aheadC a b = true ∨ aheadC b a = true ∨ sameC a b = true := by
 unfold aheadC sameC
 cases h1 : Op.bytesLess a.k b.k with
 | true => left; rfl
 | false =>
   cases h2 : Op.bytesLess b.k a.k with
   | true => right; left; rfl
   | false =>
     have h := bl_total h1 h2
     rw [h]
     rcases Int.lt_trichotomy a.q b.q with k | k | k
     · right; left; simp [k]
     · right; right; simp [k]
     · left; simp [k]
theorem ahead_anti {a b : Ce} (h : aheadC a b = true) : aheadC b a = false := by
 cases e : aheadC b a with
 | false => rfl
 | true => have := ahead_trans h e; rw [ahead_irrefl] at this; cases this
theorem ahead_same_l {a b c : Ce} (h : sameC a b = true) : aheadC a c = aheadC b c := by
 unfold sameC at h
 simp only [Bool.and_eq_true, decide_eq_true_eq] at h
 unfold aheadC
 rw [h.1, h.2]
theorem ahead_same_r {a b c : Ce} (h : sameC a b = true) : aheadC c a = aheadC c b := by
 unfold sameC at h
 simp only [Bool.and_eq_true, decide_eq_true_eq] at h
 unfold aheadC
 rw [h.1, h.2]
theorem sameC_symm {a b : Ce} (h : sameC a b = true) : sameC b a = true := by
 unfold sameC at h ⊢
 simp only [Bool.and_eq_true, decide_eq_true_eq] at h ⊢
 exact ⟨h.1.symm, h.2.symm⟩
theorem ahead_not_same {a b : Ce} (h : aheadC a b = true) : sameC a b = false := by
 cases e : sameC a b with
 | false => rfl
 | true => rw [ahead_same_l e, ahead_irrefl] at h; cases h
def insC (c : Ce) : List Ce → List Ce
 | [] => [c]
 | x :: l => if aheadC x c = true then x :: insC c l else if sameC x c = true then x :: l else c :: x :: l
def Rise (l : List Ce) : Prop := l.Pairwise fun a b => aheadC a b = true
theorem insC_app {c : Ce} : ∀ {A : List Ce} (B : List Ce), (∀ x ∈ A, aheadC x c = true) → insC c (A ++ B) = A ++ insC c B
 | [], _, _ => rfl
 | x :: A, B, h => by
   rw [List.cons_append, insC, if_pos (h x (by simp)), insC_app B (fun y hy => h y (by simp [hy]))]
   rfl
theorem insC_head {c : Ce} : ∀ (A : List Ce) {B : List Ce}, (∀ b, B.head? = some b → aheadC c b = true) → insC c (A ++ B) = insC c A ++ B
 | [], [], _ => rfl
 | [], b :: B, h => by
   have := h b rfl
   have hs : sameC b c = false := by
    cases e : sameC b c with
    | false => rfl
    | true => have := sameC_symm e; rw [ahead_not_same (h b rfl)] at this; cases this
   show insC c (b :: B) = [c] ++ b :: B
   unfold insC
   rw [if_neg (by rw [ahead_anti this]; simp), if_neg (by rw [hs]; simp)]
   rfl
 | x :: A, B, h => by
   rw [List.cons_append, insC, insC]
   split
   · rw [insC_head A h]; rfl
   · split <;> rfl
theorem insC_mem {c x : Ce} : ∀ {l : List Ce}, x ∈ insC c l → x = c ∨ x ∈ l
 | [], h => by simp [insC] at h; exact .inl h
 | y :: l, h => by
   rw [insC] at h
   split at h
   · rcases List.mem_cons.1 h with h | h
     · right; simp [h]
     · rcases insC_mem h with h | h
       · exact .inl h
       · right; simp [h]
   · split at h
     · exact .inr h
     · rcases List.mem_cons.1 h with h | h
       · exact .inl h
       · exact .inr h
theorem insC_rise {c : Ce} : ∀ {l : List Ce}, Rise l → Rise (insC c l)
 | [], _ => by simp [insC, Rise]
 | x :: l, h => by
   have h2 := List.pairwise_cons.1 h
   rw [insC]
   split
   · rename_i hx
     refine List.pairwise_cons.2 ⟨?_, insC_rise h2.2⟩
     intro y hy
     rcases insC_mem hy with rfl | hy
     · exact hx
     · exact h2.1 y hy
   · rename_i hx
     split
     · exact h
     · rename_i hs
       have hcx : aheadC c x = true := by
        rcases ahead_or x c with e | e | e
        · exact absurd e hx
        · exact e
        · exact absurd e hs
       refine List.pairwise_cons.2 ⟨?_, h⟩
       intro y hy
       rcases List.mem_cons.1 hy with rfl | hy
       · exact hcx
       · exact ahead_trans hcx (h2.1 y hy)
theorem insC_length {c : Ce} : ∀ (l : List Ce), (insC c l).length ≤ l.length + 1
 | [] => by simp [insC]
 | x :: l => by
   rw [insC]
   split
   · have := insC_length (c := c) l; simp; omega
   · split <;> simp
theorem insC_at {c : Ce} {l : List Ce} {k : Nat} (h1 : ∀ i, i < k → aheadC (l.getD i Ce.zero) c = true) (hk : k ≤ l.length) (h2 : k < l.length → aheadC (l.getD k Ce.zero) c = false) :
 insC c l = if k < l.length ∧ sameC (l.getD k Ce.zero) c = true then l else l.take k ++ c :: l.drop k := by
 have e : insC c l = l.take k ++ insC c (l.drop k) := by
  conv => lhs; rw [← List.take_append_drop k l]
  refine insC_app _ ?_
  intro x hx
  obtain ⟨i, hi, rfl⟩ := List.getElem_of_mem hx
  have hi2 : i < k := by rw [List.length_take] at hi; omega
  have := h1 i hi2
  rw [show l.getD i Ce.zero = (l.take k)[i] by simp [List.getD, show i < l.length by omega]] at this
  exact this
 rw [e]
 by_cases hkl : k < l.length
 · have hd : l.drop k = l.getD k Ce.zero :: l.drop (k + 1) := by
    rw [List.drop_eq_getElem_cons hkl]
    simp [List.getD, hkl]
   rw [hd, insC, if_neg (by rw [h2 hkl]; simp)]
   by_cases hs : sameC (l.getD k Ce.zero) c = true
   · rw [if_pos hs, if_pos ⟨hkl, hs⟩, ← hd, List.take_append_drop]
   · rw [if_neg hs, if_neg (fun h => hs h.2)]
 · have hd : l.drop k = [] := List.drop_eq_nil_of_le (by omega)
   rw [hd, insC, if_neg (fun h => hkl h.1)]
def putC (l : List Ce) (c : Ce) : List Ce := if c.may then insC c l else l
def putsC (l m : List Ce) : List Ce := m.foldl putC l
theorem putsC_snoc (l m : List Ce) (c : Ce) : putsC l (m ++ [c]) = putC (putsC l m) c := by simp [putsC]
theorem putC_rise {c : Ce} {l : List Ce} (h : Rise l) : Rise (putC l c) := by
 unfold putC
 split
 · exact insC_rise h
 · exact h
theorem putC_length (c : Ce) (l : List Ce) : (putC l c).length ≤ l.length + 1 := by
 unfold putC
 split
 · exact insC_length l
 · omega
theorem putC_mem {c x : Ce} {l : List Ce} (h : x ∈ putC l c) : (x = c ∧ c.may = true) ∨ x ∈ l := by
 unfold putC at h
 split at h
 · rename_i hm
   rcases insC_mem h with h | h
   · exact .inl ⟨h, hm⟩
   · exact .inr h
 · exact .inr h
structure PagesOk (gs : List (List Ce)) : Prop where
 some : ∀ g ∈ gs, 0 < g.length ∧ g.length ≤ 16
 rise : Rise gs.flatten
 may : ∀ c ∈ gs.flatten, c.may = true
def partG (g : List Ce) : List (List Ce) := if 16 < g.length then [g.take (g.length / 2), g.drop (g.length / 2)] else [g]
theorem partG_flat (g : List Ce) : (partG g).flatten = g := by
 unfold partG
 split
 · simp
 · simp
theorem getD_page {gs : List (List Ce)} {i : Nat} (h : i < gs.length) : gs.getD i [] ∈ gs := by
 simp [List.getD, h]
theorem head_mem {g : List Ce} (h : 0 < g.length) : g.headD Ce.zero ∈ g := by
 cases g with
 | nil => simp at h
 | cons x g => simp
theorem flat_split {gs : List (List Ce)} {k : Nat} (h : k < gs.length) : gs.flatten = (gs.take k).flatten ++ (gs.getD k [] ++ (gs.drop (k + 1)).flatten) := by
 conv => lhs; rw [← List.take_append_drop k gs, List.drop_eq_getElem_cons h]
 rw [List.flatten_append, List.flatten_cons]
 simp [List.getD, h]
theorem rise_app {A B : List Ce} : Rise (A ++ B) ↔ Rise A ∧ Rise B ∧ ∀ a ∈ A, ∀ b ∈ B, aheadC a b = true := List.pairwise_append
theorem put_at {gs : List (List Ce)} (ok : PagesOk gs) {c : Ce} {t : Nat} (hn : 0 < gs.length) (ht1 : ∀ i, i < t → aheadC c ((gs.getD i []).headD Ce.zero) = false) (ht2 : ∀ i, t ≤ i → i < gs.length → aheadC c ((gs.getD i []).headD Ce.zero) = true) (ht : t ≤ gs.length) :
 insC c gs.flatten = (gs.take (t - 1)).flatten ++ (insC c (gs.getD (t - 1) []) ++ (gs.drop (t - 1 + 1)).flatten) := by
 have hk : t - 1 < gs.length := by omega
 rw [flat_split hk]
 have hr := ok.rise
 rw [flat_split hk, rise_app] at hr
 rw [insC_app, insC_head]
 · intro b hb
   by_cases h2 : t - 1 + 1 < gs.length
   · have hd : gs.drop (t - 1 + 1) = gs.getD (t - 1 + 1) [] :: gs.drop (t - 1 + 1 + 1) := by
      rw [List.drop_eq_getElem_cons h2]; simp [List.getD, h2]
     have hl := (ok.some _ (getD_page h2)).1
     rw [hd, List.flatten_cons, List.head?_append] at hb
     have hg : (gs.getD (t - 1 + 1) []).head? = some ((gs.getD (t - 1 + 1) []).headD Ce.zero) := by
      cases hg : gs.getD (t - 1 + 1) [] with
      | nil => rw [hg] at hl; simp at hl
      | cons x l => rfl
     rw [hg] at hb
     simp only [Option.some_or, Option.some.injEq] at hb
     rw [← hb]
     exact ht2 _ (by omega) h2
   · rw [List.drop_eq_nil_of_le (by omega)] at hb
     cases hb
 · intro x hx
   by_cases h0 : t = 0
   · subst h0
     simp at hx
   · have hl := (ok.some _ (getD_page hk)).1
     have h1 := hr.2.2 x hx _ (List.mem_append_left _ (head_mem hl))
     have h2 := ht1 (t - 1) (by omega)
     rcases ahead_or c ((gs.getD (t - 1) []).headD Ce.zero) with e | e | e
     · rw [h2] at e; cases e
     · exact ahead_trans h1 e
     · rw [ahead_same_r e]; exact h1
theorem putG_flat {gs : List (List Ce)} (ok : PagesOk gs) {c : Ce} {t : Nat} (hn : 0 < gs.length) (ht1 : ∀ i, i < t → aheadC c ((gs.getD i []).headD Ce.zero) = false) (ht2 : ∀ i, t ≤ i → i < gs.length → aheadC c ((gs.getD i []).headD Ce.zero) = true) (ht : t ≤ gs.length) :
 (gs.take (t - 1) ++ partG (insC c (gs.getD (t - 1) [])) ++ gs.drop (t - 1 + 1)).flatten = insC c gs.flatten := by
 rw [put_at ok hn ht1 ht2 ht, List.flatten_append, List.flatten_append, partG_flat, List.append_assoc]
theorem partG_some {g : List Ce} (h : 0 < g.length) (h2 : g.length ≤ 17) : ∀ x ∈ partG g, 0 < x.length ∧ x.length ≤ 16 := by
 intro x hx
 unfold partG at hx
 split at hx
 · rename_i hl
   rcases List.mem_cons.1 hx with rfl | hx
   · rw [List.length_take]; omega
   · rcases List.mem_cons.1 hx with rfl | hx
     · rw [List.length_drop]; omega
     · cases hx
 · simp only [List.mem_singleton] at hx
   subst hx
   omega
theorem insC_some (c : Ce) (l : List Ce) : 0 < (insC c l).length := by
 cases l with
 | nil => simp [insC]
 | cons x l =>
   rw [insC]
   split
   · simp
   · split <;> simp
theorem put_ok {gs : List (List Ce)} (ok : PagesOk gs) {c : Ce} (hm : c.may = true) {t : Nat} (hn : 0 < gs.length) (ht1 : ∀ i, i < t → aheadC c ((gs.getD i []).headD Ce.zero) = false) (ht2 : ∀ i, t ≤ i → i < gs.length → aheadC c ((gs.getD i []).headD Ce.zero) = true) (ht : t ≤ gs.length) :
 PagesOk (gs.take (t - 1) ++ partG (insC c (gs.getD (t - 1) [])) ++ gs.drop (t - 1 + 1)) := by
 have hk : t - 1 < gs.length := by omega
 refine ⟨?_, ?_, ?_⟩
 · intro g hg
   rcases List.mem_append.1 hg with hg | hg
   · rcases List.mem_append.1 hg with hg | hg
     · exact ok.some g (List.mem_of_mem_take hg)
     · have := (ok.some _ (getD_page hk)).2
       have := insC_length (c := c) (gs.getD (t - 1) [])
       exact partG_some (insC_some _ _) (by omega) g hg
   · exact ok.some g (List.mem_of_mem_drop hg)
 · rw [putG_flat ok hn ht1 ht2 ht]
   exact insC_rise ok.rise
 · rw [putG_flat ok hn ht1 ht2 ht]
   intro x hx
   rcases insC_mem hx with rfl | hx
   · exact hm
   · exact ok.may x hx
theorem first_ok {c : Ce} (hm : c.may = true) : PagesOk [[c]] := ⟨by simp, by simp [Rise], by simp [hm]⟩
def within (from' to : List UInt8) (c : Ce) : Bool := !Op.bytesLess c.k from' && (decide (to = []) || Op.bytesLess c.k to)
def rangeC (l : List Ce) (from' to : List UInt8) : List Ce := l.filter (within from' to)
def findC (l : List Ce) (key : List UInt8) : Option Ce := l.find? fun c => decide (c.k = key)
theorem key_next (a b : List UInt8) : Op.bytesLess a (b ++ [0]) = !Op.bytesLess b a := by
 cases h : Op.bytesLess b a with
 | true =>
   cases e : Op.bytesLess a (b ++ [0]) with
   | false => rfl
   | true =>
     exfalso
     have key : ∀ a b : List UInt8, Op.bytesLess b a = true → Op.bytesLess a (b ++ [0]) = true → False := by
      intro a
      induction a with
      | nil => intro b h; cases b <;> simp [Op.bytesLess] at h
      | cons x a ih =>
        intro b h e
        cases b with
        | nil =>
          cases a <;> simp [Op.bytesLess] at e
        | cons y b =>
          simp only [List.cons_append, Op.bytesLess, Bool.or_eq_true, decide_eq_true_eq, Bool.and_eq_true, beq_iff_eq, UInt8.lt_iff_toNat_lt] at h e
          rcases h with h | ⟨h0, h⟩
          · rcases e with e | ⟨e0, e⟩
            · omega
            · rw [e0] at h; omega
          · rcases e with e | ⟨e0, e⟩
            · rw [h0] at e; omega
            · exact ih b h e
     exact key a b h e
 | false =>
   show Op.bytesLess a (b ++ [0]) = true
   have key : ∀ a b : List UInt8, Op.bytesLess b a = false → Op.bytesLess a (b ++ [0]) = true := by
    intro a
    induction a with
    | nil => intro b _; cases b <;> simp [Op.bytesLess]
    | cons x a ih =>
      intro b h
      cases b with
      | nil => simp [Op.bytesLess] at h
      | cons y b =>
        simp only [List.cons_append, Op.bytesLess, Bool.or_eq_false_iff, decide_eq_false_iff_not, Bool.and_eq_false_iff, beq_eq_false_iff_ne, UInt8.lt_iff_toNat_lt] at h
        simp only [List.cons_append, Op.bytesLess, Bool.or_eq_true, decide_eq_true_eq, Bool.and_eq_true, beq_iff_eq, UInt8.lt_iff_toNat_lt]
        by_cases hx : x.toNat < y.toNat
        · left; exact hx
        · have hxy : x = y := UInt8.toNat_inj.1 (by omega)
          right
          refine ⟨hxy, ih b ?_⟩
          rcases h.2 with h | h
          · exact absurd hxy.symm h
          · exact h
   exact key a b h
theorem within_one (key : List UInt8) (c : Ce) : within key (key ++ [0]) c = decide (c.k = key) := by
 unfold within
 rw [key_next]
 simp only [List.append_eq_nil_iff, List.cons_ne_self, and_false, decide_false, Bool.false_or]
 cases h1 : Op.bytesLess c.k key with
 | true =>
   have : c.k ≠ key := fun e => by rw [e, bl_irrefl] at h1; cases h1
   simp [this]
 | false =>
   cases h2 : Op.bytesLess key c.k with
   | true =>
     have : c.k ≠ key := fun e => by rw [e, bl_irrefl] at h2; cases h2
     simp [this]
   | false => simp [bl_total h1 h2]
theorem rangeC_one (l : List Ce) (key : List UInt8) : (rangeC l key (key ++ [0])).head? = findC l key := by
 unfold rangeC findC
 rw [List.head?_filter]
 congr 1
 funext c
 exact within_one key c
theorem within_all (c : Ce) : within [] [] c = true := by
 unfold within
 cases h : c.k <;> simp [Op.bytesLess]
theorem rangeC_all (l : List Ce) : rangeC l [] [] = l := List.filter_eq_self.2 fun c _ => within_all c
theorem key_mono {a b : Ce} (h : aheadC a b = true) {key : List UInt8} (hb : Op.bytesLess b.k key = true) : Op.bytesLess a.k key = true := by
 unfold aheadC at h
 simp only [Bool.or_eq_true, Bool.and_eq_true, beq_iff_eq] at h
 rcases h with h | h
 · exact bl_trans h hb
 · rw [h.1]; exact hb
theorem bl_le_trans {a b key : List UInt8} (h : Op.bytesLess a key = false) (k : Op.bytesLess b key = true) : Op.bytesLess b a = true := by
 cases e : Op.bytesLess b a with
 | true => rfl
 | false =>
   cases f : Op.bytesLess a b with
   | true => rw [bl_trans f k] at h; cases h
   | false => rw [bl_total e f, h] at k; cases k
theorem rangeC_app (l m : List Ce) (from' to : List UInt8) : rangeC (l ++ m) from' to = rangeC l from' to ++ rangeC m from' to := by simp [rangeC]
theorem rangeC_cut {l : List Ce} {from' to : List UInt8} {a z : Nat} (ha1 : ∀ i, i < a → Op.bytesLess (l.getD i Ce.zero).k from' = true) (ha2 : ∀ i, a ≤ i → i < l.length → Op.bytesLess (l.getD i Ce.zero).k from' = false)
 (hz : (to = [] ∧ z = l.length) ∨ (to ≠ [] ∧ (∀ i, i < z → i < l.length → a ≤ i → Op.bytesLess (l.getD i Ce.zero).k to = true) ∧ (∀ i, z ≤ i → i < l.length → Op.bytesLess (l.getD i Ce.zero).k to = false))) (haz : a ≤ z) (hzl : z ≤ l.length) :
 rangeC l from' to = (l.drop a).take (z - a) := by
 have e : l = l.take a ++ ((l.drop a).take (z - a) ++ l.drop z) := by
  have h1 : l.drop z = (l.drop a).drop (z - a) := by rw [List.drop_drop]; congr 1; omega
  rw [h1, List.take_append_drop, List.take_append_drop]
 have getD_of : ∀ i (h : i < l.length), l.getD i Ce.zero = l[i] := fun i h => by simp [List.getD, h]
 have e1 : rangeC (l.take a) from' to = [] := by
  refine List.filter_eq_nil_iff.2 ?_
  intro x hx
  obtain ⟨i, hi, rfl⟩ := List.getElem_of_mem hx
  rw [List.length_take] at hi
  have := ha1 i (by omega)
  rw [getD_of i (by omega)] at this
  rw [List.getElem_take]
  unfold within
  simp [this]
 have e2 : rangeC ((l.drop a).take (z - a)) from' to = (l.drop a).take (z - a) := by
  refine List.filter_eq_self.2 ?_
  intro x hx
  obtain ⟨i, hi, rfl⟩ := List.getElem_of_mem hx
  rw [List.length_take, List.length_drop] at hi
  have h2 := ha2 (a + i) (by omega) (by omega)
  rw [getD_of _ (by omega)] at h2
  rw [List.getElem_take, List.getElem_drop]
  unfold within
  rw [h2]
  rcases hz with hz | hz
  · simp [hz.1]
  · have := hz.2.1 (a + i) (by omega) (by omega) (by omega)
    rw [getD_of _ (by omega)] at this
    rw [this]
    simp
 have e3 : rangeC (l.drop z) from' to = [] := by
  refine List.filter_eq_nil_iff.2 ?_
  intro x hx
  obtain ⟨i, hi, rfl⟩ := List.getElem_of_mem hx
  rw [List.length_drop] at hi
  rw [List.getElem_drop]
  unfold within
  rcases hz with hz | hz
  · omega
  · have := hz.2.2 (z + i) (by omega) (by omega)
    rw [getD_of _ (by omega)] at this
    rw [this]
    simp [hz.1]
 conv => lhs; rw [e]
 rw [rangeC_app, rangeC_app, e1, e2, e3]
 simp
theorem rise_unique : ∀ {l m : List Ce}, Rise l → Rise m → (∀ x, x ∈ l ↔ x ∈ m) → l = m
 | [], m, _, _, h => by
   cases m with
   | nil => rfl
   | cons y m => exact absurd ((h y).2 (by simp)) (by simp)
 | x :: l, [], _, _, h => absurd ((h x).1 (by simp)) (by simp)
 | x :: l, y :: m, hl, hm, h => by
   have h1 := List.pairwise_cons.1 hl
   have h2 := List.pairwise_cons.1 hm
   have hxy : x = y := by
    rcases List.mem_cons.1 ((h x).1 (by simp)) with e | e
    · exact e
    · rcases List.mem_cons.1 ((h y).2 (by simp)) with f | f
      · exact f.symm
      · have := ahead_trans (h1.1 y f) (h2.1 x e)
        rw [ahead_irrefl] at this
        cases this
   subst hxy
   rw [rise_unique h1.2 h2.2]
   intro z
   constructor
   · intro hz
     rcases List.mem_cons.1 ((h z).1 (by simp [hz])) with e | e
     · subst e; have := h1.1 z hz; rw [ahead_irrefl] at this; cases this
     · exact e
   · intro hz
     rcases List.mem_cons.1 ((h z).2 (by simp [hz])) with e | e
     · subst e; have := h2.1 z hz; rw [ahead_irrefl] at this; cases this
     · exact e
theorem puts_rise : ∀ {l acc : List Ce}, Rise acc → Rise (putsC acc l)
 | [], _, h => h
 | c :: l, acc, h => puts_rise (l := l) (putC_rise h)
theorem puts_may : ∀ {l acc : List Ce}, (∀ x ∈ acc, x.may = true) → ∀ x ∈ putsC acc l, x.may = true
 | [], _, h => h
 | c :: l, acc, h => puts_may (l := l) (by
   intro x hx
   rcases putC_mem hx with ⟨rfl, hm⟩ | hx
   · exact hm
   · exact h x hx)
theorem puts_length : ∀ (l acc : List Ce), (putsC acc l).length ≤ acc.length + l.length
 | [], acc => by simp [putsC]
 | c :: l, acc => by
   have h1 := puts_length l (putC acc c)
   have h2 := putC_length c acc
   show (putsC (putC acc c) l).length ≤ _
   rw [List.length_cons]
   omega
def lowC (L : List Ce) (key : List UInt8) : List Ce := L.filter fun c => Op.bytesLess c.k key
def highC (L : List Ce) (key : List UInt8) : List Ce := L.filter fun c => !Op.bytesLess c.k key
theorem bl_nil (a : List UInt8) : Op.bytesLess a [] = false := by cases a <;> rfl
theorem rangeC_low {L : List Ce} {key : List UInt8} (h : key ≠ []) : rangeC L [] key = lowC L key := by
 unfold rangeC lowC within
 congr 1
 funext c
 rw [bl_nil]
 simp [h]
theorem rangeC_high (L : List Ce) (key : List UInt8) : rangeC L key [] = highC L key := by
 unfold rangeC highC within
 congr 1
 funext c
 simp
theorem lowC_nil (L : List Ce) : lowC L [] = [] := by
 unfold lowC
 refine List.filter_eq_nil_iff.2 fun x _ => ?_
 rw [bl_nil]
 simp
theorem highC_nil (L : List Ce) : highC L [] = L := by
 unfold highC
 refine List.filter_eq_self.2 fun x _ => ?_
 rw [bl_nil]
 rfl
theorem rise_filter {l : List Ce} (h : Rise l) (p : Ce → Bool) : Rise (l.filter p) := h.sublist List.filter_sublist
def chunks : Nat → List Ce → List (List Ce)
 | 0, _ => []
 | n + 1, l => if l = [] then [] else l.take 8 :: chunks n (l.drop 8)
theorem chunks_flat : ∀ (n : Nat) (l : List Ce), l.length ≤ n * 8 → (chunks n l).flatten = l
 | 0, l, h => by
   have : l = [] := List.eq_nil_of_length_eq_zero (by omega)
   simp [chunks, this]
 | n + 1, l, h => by
   rw [chunks]
   split
   · rename_i e; simp [e]
   · rw [List.flatten_cons, chunks_flat n _ (by rw [List.length_drop]; omega), List.take_append_drop]
theorem chunks_some : ∀ (n : Nat) (l : List Ce), ∀ g ∈ chunks n l, 0 < g.length ∧ g.length ≤ 16
 | 0, l, g, h => by simp [chunks] at h
 | n + 1, l, g, h => by
   rw [chunks] at h
   split at h
   · simp at h
   · rename_i e
     rcases List.mem_cons.1 h with rfl | h
     · have : 0 < l.length := List.length_pos_iff.2 e
       rw [List.length_take]
       omega
     · exact chunks_some n _ g h
theorem chunks_ok {n : Nat} {l : List Ce} (h : l.length ≤ n * 8) (hr : Rise l) (hm : ∀ x ∈ l, x.may = true) : PagesOk (chunks n l) :=
 ⟨chunks_some n l, by rw [chunks_flat n l h]; exact hr, by rw [chunks_flat n l h]; exact hm⟩
theorem sorted_rise {l : List Ce} : sortedB l = true ↔ Rise l ∧ ∀ x ∈ l, x.may = true := by
 have key : ∀ (l : List Ce) (p : Option Ce), sortedFrom p l = true ↔ Rise l ∧ (∀ x ∈ l, x.may = true) ∧ ∀ a, p = some a → ∀ x ∈ l, aheadC a x = true := by
  intro l
  induction l with
  | nil => intro p; simp [sortedFrom, Rise]
  | cons c l ih =>
    intro p
    simp only [sortedFrom, Bool.and_eq_true]
    rw [ih (some c)]
    constructor
    · rintro ⟨h1, h2, h3, h4⟩
      have hc := h4 c rfl
      refine ⟨List.pairwise_cons.2 ⟨hc, h2⟩, ?_, ?_⟩
      · intro x hx
        rcases List.mem_cons.1 hx with rfl | hx
        · exact okAfter_may h1
        · exact h3 x hx
      · rintro a rfl x hx
        have ha : aheadC a c = true := by
         unfold okAfter at h1
         simp only [Bool.and_eq_true] at h1
         exact h1.2
        rcases List.mem_cons.1 hx with rfl | hx
        · exact ha
        · exact ahead_trans ha (hc x hx)
    · rintro ⟨h1, h2, h3⟩
      have hp := List.pairwise_cons.1 h1
      refine ⟨?_, hp.2, fun x hx => h2 x (by simp [hx]), ?_⟩
      · cases p with
        | none => exact h2 c (by simp)
        | some a =>
          unfold okAfter
          simp only [Bool.and_eq_true]
          exact ⟨h2 c (by simp), h3 a rfl c (by simp)⟩
      · rintro a ha x hx
        simp only [Option.some.injEq] at ha
        subst ha
        exact hp.1 x hx
 have := key l none
 unfold sortedB
 rw [this]
 constructor
 · rintro ⟨h1, h2, _⟩; exact ⟨h1, h2⟩
 · rintro ⟨h1, h2⟩; exact ⟨h1, h2, fun a ha => by cases ha⟩
end Spoor
namespace Go
section
variable {P : Program} (w : World)
theorem append_type2 (t u ty e e' : TypeId) (ht : P.underlying t = some (.slice e)) (hu : P.underlying u = some (.slice e')) (a b : Value) :
 (Builtin.append_ #[t, u] ty #[a, b]).run P w = (Builtin.append_ #[t, t] ty #[a, b]).run P w := by
 have h1 : Sem.run P (underlying u >>= fun d => pure (match d with | .int _ => true | _ => false)) w = Sem.run P (underlying t >>= fun d => pure (match d with | .int _ => true | _ => false)) w := by
  simp [run_underlying ht, run_underlying hu]
 unfold Builtin.append_
 cases a <;> simp [run_underlying ht, run_underlying hu]
theorem run_append_owned_zero2 (base : Nat) (t u ty e e' : TypeId) (i : TypeInfo) (size : Nat) (ht : P.underlying t = some (.slice e)) (hu : P.underlying u = some (.slice e')) (hi : P.info? e = some i)
 (v : Value) (n : Nat) (xs : List Value) (hown : w.ownsRow base e size v n xs) (A : Option Addr) (c : Nat) :
 (Builtin.append_ #[t, u] ty #[v, .slice A 0 c]).run P w = .ok v w := by
 rw [append_type2 w t u ty e e' ht hu]
 cases A <;> rcases hown.2 with ⟨rfl, rfl⟩ | ⟨g, cap, cur, rfl, _, _, hnc, _⟩
 · simp [Builtin.append_, run_underlying ht, sizeOf, typeInfo, hi, Builtin.lenOf, Builtin.firstCells]
 · simp [Builtin.append_, run_underlying ht, sizeOf, typeInfo, hi, Builtin.lenOf, Builtin.firstCells, hnc, storeCells]
 · simp [Builtin.append_, run_underlying ht, sizeOf, typeInfo, hi, Builtin.lenOf, Builtin.firstCells, loadCells, loadCellsFrom, storeCells]
 · simp [Builtin.append_, run_underlying ht, sizeOf, typeInfo, hi, Builtin.lenOf, Builtin.firstCells, hnc, loadCells, loadCellsFrom, storeCells]
theorem run_append_every2 (t u ty : TypeId) (base : Nat) (e e' : TypeId) (i : TypeInfo) (z : Value) (size bytes : Nat) (ht : P.underlying t = some (.slice e)) (hu : P.underlying u = some (.slice e')) (hi : P.info? e = some i) (hz : i.zero = some z)
 (hsize : i.size = size) (hby : i.bytes = bytes) (hzs : z.cells.size = size) (hsz : 0 < size)
 (v : Value) (n : Nat) (xs : List Value) (hown : w.ownsRow base e size v n xs)
 (A : Option Addr) (m c : Nat) (news : List Value) (hl : news.length = m * size) (hsrc : 0 < m → ∃ ad, A = some ad ∧ ∀ j u, news[j]? = some u → w.cell? (ad.add j) = some u) (h1 : ∀ u ∈ news, u.oneCell' = true)
 (h63 : n + m ≤ maxLen) (hbytes : (n + m) * bytes ≤ 140737488355328) (hbase : base ≤ w.heap.size) :
 ∃ v' w', (Builtin.append_ #[t, u] ty #[v, .slice A m c]).run P w = .ok v' w' ∧ w'.ownsRow base e size v' (n + m) (xs ++ news) ∧ w.grownBy w' v.ownBlock := by
 by_cases hm : 0 < m
 · obtain ⟨ad, rfl, hnews⟩ := hsrc hm
   obtain ⟨g, cap, w', hr, h2, h3, _, _⟩ := run_append_lies (P := P) w t ty base e i z size bytes ht hi hz hsize hby hzs hsz v n xs hown ad m c news hl hnews h1 hm h63 hbytes hbase _ rfl
   exact ⟨_, w', by rw [append_type2 w t u ty e e' ht hu]; exact hr, h2, h3⟩
 · obtain rfl : m = 0 := by omega
   have hnews : news = [] := List.eq_nil_of_length_eq_zero (by simpa using hl)
   subst hnews
   exact ⟨v, w, run_append_owned_zero2 w base t u ty e e' i size ht hu hi v n xs hown A c, by simpa using hown, World.grownBy.refl _ _⟩
theorem wpList_append_every2 {ops : Array Oper} {rest : List Oper} {o : Oper} {a : Act} {Q : Exit → Act → World → Prop} (hgd : o.guard = none) (s x : Operand) (t u : TypeId)
 (ho : o.op = .call { callee := .builtin .append, args := #[s, x], argTypes := #[t, u] })
 (base : Nat) (e e' : TypeId) (i : TypeInfo) (z : Value) (size bytes : Nat) (ht : P.underlying t = some (.slice e)) (hu : P.underlying u = some (.slice e')) (hi : P.info? e = some i) (hz : i.zero = some z)
 (hsize : i.size = size) (hby : i.bytes = bytes) (hzs : z.cells.size = size) (hsz : 0 < size)
 (v : Value) (n : Nat) (xs : List Value) (hs : a.eval s = v) (hown : w.ownsRow base e size v n xs)
 (A : Option Addr) (m c : Nat) (news : List Value) (hx : a.eval x = .slice A m c) (hl : news.length = m * size) (hsrc : 0 < m → ∃ ad, A = some ad ∧ ∀ j u, news[j]? = some u → w.cell? (ad.add j) = some u) (h1 : ∀ u ∈ news, u.oneCell' = true)
 (h63 : n + m ≤ maxLen) (hbytes : (n + m) * bytes ≤ 140737488355328) (hbase : base ≤ w.heap.size)
 (h : ∀ v' w', w'.ownsRow base e size v' (n + m) (xs ++ news) → w.grownBy w' v.ownBlock → wpList P ops Q rest (a.put o.dst v') w') : wpList P ops Q (o :: rest) a w := by
 refine wpList_plain hgd fun K hK' => ?_
 obtain ⟨v', w', hr, h2, h3⟩ := run_append_every2 (P := P) w t u o.type base e e' i z size bytes ht hu hi hz hsize hby hzs hsz v n xs hown A m c news hl hsrc h1 h63 hbytes hbase
 unfold Oper.wp
 simp [execOp, ho, resolve, invoke, builtin, hs, hx, hr, Result.andThen]
 exact hK' _ _ (h v' w' h2 h3)
end
section
variable {P : Program} (w : World)
theorem run_copy_rowK (dT sT ty elem : TypeId) (size : Nat) (g o dLen dCap : Nat) (a : Addr) (sLen sCap k : Nat) (cur : Array Value) (t : TypeId) (cs : List Value)
 (hu : P.underlying dT = some (.slice elem)) (hs : (P.info? elem).map (·.size) = some size)
 (hg : w.heap[g]? = some (.cells cur t (0, 0))) (hk : Nat.min sLen dLen = k) (hn : cs.length = k * size)
 (hsrc : ∀ j v, cs[j]? = some v → w.cell? (a.add j) = some v) (hfit : o + cs.length ≤ cur.size) (h1 : ∀ v ∈ cs, v.oneCell' = true) :
 (Builtin.copy_ #[dT, sT] ty #[.slice (some ⟨g, o, none⟩) dLen dCap, .slice (some a) sLen sCap]).run P w =
   .ok (goInt k) (w.setRow g (cur.toList.take o ++ cs ++ cur.toList.drop (o + cs.length)).toArray) := by
 have hl := run_firstCells_some (P := P) w size k a sLen sCap cs hn hsrc
 have hst := run_storeCells_at P g o t cs 0 cur w hg (by simpa using hfit) h1
 cases hq : P.info? elem with
 | none => simp [hq] at hs
 | some i =>
   have hi : i.size = size := by simpa [hq] using hs
   simp [Builtin.copy_, run_underlying hu, Builtin.lenOf, sizeOf, typeInfo, hq, hi, hk, hl, hst]
theorem wpList_copy_run {ops : Array Oper} {rest : List Oper} {o : Oper} {a : Act} {Q : Exit → Act → World → Prop} (hgd : o.guard = none) (d s : Operand) (t t' : TypeId)
 (ho : o.op = .call { callee := .builtin .copy, args := #[d, s], argTypes := #[t, t'] }) (v u : Value) (hd : a.eval d = v) (hs : a.eval s = u) {v' : Value} {w' : World}
 (hr : (Builtin.copy_ #[t, t'] o.type #[v, u]).run P w = .ok v' w') (h : wpList P ops Q rest (a.put o.dst v') w') : wpList P ops Q (o :: rest) a w := by
 refine wpList_plain hgd fun K hK' => ?_
 unfold Oper.wp execOp
 simp only [ho, resolve, invoke, builtin, Sem.run_bind, Sem.run_pure, Result.andThen_ok, List.map_toArray, List.map_cons, List.map_nil, hd, hs, hr]
 exact hK' _ _ h
theorem step_copy_run {ops : Array Oper} {o : Oper} {a : Act} {K : Act → World → Prop} {Q : Exit → Act → World → Prop} {E : Prop}
 (hg : o.guard = none) (d x : Operand) (dT sT : TypeId) (hop : o.op = Op.call { callee := Callee.builtin Builtin.copy, args := #[d, x], argTypes := #[dT, sT] })
 (v u : Value) (hd : a.eval d = v) (hx : a.eval x = u) {v' : Value} {w' : World} (hr : (Builtin.copy_ #[dT, sT] o.type #[v, u]).run P w = .ok v' w') (hK : K (a.put o.dst v') w') :
 if Region.wanted o (yielded ops a.tmps) = true then Oper.wp P o a w K Q else E := by
 have hw : Region.wanted o (yielded ops a.tmps) = true := by simp [Region.wanted, hg]
 rw [if_pos hw]
 unfold Oper.wp
 simp [execOp, hop, resolve, invoke, builtin, hd, hx, hr, Result.andThen]
 exact hK
theorem wpList_append_runE {ops : Array Oper} {rest : List Oper} {o : Oper} {a : Act} {Q : Exit → Act → World → Prop} (hgd : o.guard = none) (d s : Operand) (t t' : TypeId)
 (ho : o.op = .call { callee := .builtin .append, args := #[d, s], argTypes := #[t, t'] }) (v u : Value) (hd : a.eval d = v) (hs : a.eval s = u) {v' : Value} {w' : World}
 (hr : (Builtin.append_ #[t, t'] o.type #[v, u]).run P w = .ok v' w') (h : wpList P ops Q rest (a.put o.dst v') w') : wpList P ops Q (o :: rest) a w := by
 refine wpList_plain hgd fun K hK' => ?_
 unfold Oper.wp execOp
 simp only [ho, resolve, invoke, builtin, Sem.run_bind, Sem.run_pure, Result.andThen_ok, List.map_toArray, List.map_cons, List.map_nil, hd, hs, hr]
 exact hK' _ _ h
end
theorem splice_in {α : Type} {R X T c : List α} {p k : Nat} (hR : R = X ++ T) (hp : p ≤ X.length) (hk : c.length = k) (hT : k ≤ T.length) :
 (R.take (p + k) ++ X.drop p ++ R.drop (p + k + (X.drop p).length)).take p ++ c ++ (R.take (p + k) ++ X.drop p ++ R.drop (p + k + (X.drop p).length)).drop (p + k) = X.take p ++ (c ++ (X.drop p ++ T.drop k)) := by
 subst hR
 have h1 : (X ++ T).length = X.length + T.length := List.length_append
 have hd : (X.drop p).length = X.length - p := List.length_drop
 have hlen : ((X ++ T).take (p + k)).length = p + k := by rw [List.length_take]; omega
 have e1 : ((X ++ T).take (p + k) ++ X.drop p ++ (X ++ T).drop (p + k + (X.drop p).length)).take p = X.take p := by
  rw [List.append_assoc, List.take_append_of_le_length (by omega), List.take_take, Nat.min_eq_left (by omega), List.take_append_of_le_length hp]
 have e2 : ((X ++ T).take (p + k) ++ X.drop p ++ (X ++ T).drop (p + k + (X.drop p).length)).drop (p + k) = X.drop p ++ T.drop k := by
  rw [List.append_assoc, List.drop_append_of_le_length (by omega), List.drop_eq_nil_of_le (by omega), List.nil_append]
  congr 1
  rw [show p + k + (X.drop p).length = X.length + k by omega, List.drop_append, List.drop_eq_nil_of_le (by omega), List.nil_append]
  congr 1
  omega
 rw [e1, e2, List.append_assoc]
theorem row_rest {α : Type} {R X : List α} {n : Nat} (h : R.take n = X) : R = X ++ R.drop n := by rw [← h, List.take_append_drop]
end Go
