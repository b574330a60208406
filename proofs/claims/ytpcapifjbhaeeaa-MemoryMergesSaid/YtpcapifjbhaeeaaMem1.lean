/- Plain facts, no program in sight: the laws of a memory. -/
import Derived.Test.YtpcapifjbhaeeaaMem0
namespace Spoor
open Go

theorem rise_unique : ∀ {l m : List Ce}, Rise l → Rise m → (∀ x, x ∈ l ↔ x ∈ m) → l = m
  | [], m, _, _, h => by
    cases m with
    | nil => rfl
    | cons y m => exact absurd ((h y).2 (by simp)) (by simp)
  | x :: l, [], _, _, h => absurd ((h x).1 (by simp)) (by simp)
  | x :: l, y :: m, hl, hm, h => by
    have h1 := List.pairwise_cons.1 hl
    have h2 := List.pairwise_cons.1 hm
    have hxy : x = y := by
      rcases List.mem_cons.1 ((h x).1 (by simp)) with e | e
      · exact e
      · rcases List.mem_cons.1 ((h y).2 (by simp)) with f | f
        · exact f.symm
        · have := ahead_trans (h1.1 y f) (h2.1 x e)
          rw [ahead_irrefl] at this
          cases this
    subst hxy
    rw [rise_unique h1.2 h2.2]
    intro z
    constructor
    · intro hz
      rcases List.mem_cons.1 ((h z).1 (by simp [hz])) with e | e
      · subst e; have := h1.1 z hz; rw [ahead_irrefl] at this; cases this
      · exact e
    · intro hz
      rcases List.mem_cons.1 ((h z).2 (by simp [hz])) with e | e
      · subst e; have := h2.1 z hz; rw [ahead_irrefl] at this; cases this
      · exact e
/-- no two of one key and Seq -/
def Unlike (l : List Ce) : Prop := l.Pairwise fun a b => sameC a b = false
theorem rise_unlike {l : List Ce} (h : Rise l) : Unlike l := List.Pairwise.imp (fun h => ahead_not_same h) h
theorem same_no_symm {a b : Ce} (h : sameC a b = false) : sameC b a = false := by
  cases e : sameC b a with
  | false => rfl
  | true => rw [sameC_symm e] at h; cases h
theorem sameC_self (a : Ce) : sameC a a = true := by unfold sameC; simp
theorem mem_insC {c x : Ce} : ∀ {l : List Ce}, (∀ y ∈ l, sameC y c = false) → (x ∈ insC c l ↔ x = c ∨ x ∈ l)
  | [], _ => by simp [insC]
  | y :: l, h => by
    rw [insC]
    split
    · rw [List.mem_cons, mem_insC (fun z hz => h z (by simp [hz])), List.mem_cons]
      constructor
      · rintro (h | h | h)
        · exact .inr (.inl h)
        · exact .inl h
        · exact .inr (.inr h)
      · rintro (h | h | h)
        · exact .inr (.inl h)
        · exact .inl h
        · exact .inr (.inr h)
    · rw [if_neg (by rw [h y (by simp)]; simp), List.mem_cons]
theorem mem_puts {x : Ce} : ∀ {l acc : List Ce}, Unlike l → (∀ y ∈ acc, ∀ z ∈ l, sameC y z = false) → (x ∈ putsC acc l ↔ x ∈ acc ∨ (x ∈ l ∧ x.may = true))
  | [], acc, _, _ => by simp [putsC]
  | c :: l, acc, h, h2 => by
    have hp := List.pairwise_cons.1 h
    show x ∈ putsC (putC acc c) l ↔ _
    have hc : ∀ y ∈ acc, sameC y c = false := fun y hy => h2 y hy c (by simp)
    rw [mem_puts hp.2]
    · unfold putC
      by_cases hm : c.may = true
      · rw [if_pos hm, mem_insC hc]
        constructor
        · rintro ((h | h) | ⟨h, k⟩)
          · subst h; exact .inr ⟨by simp, hm⟩
          · exact .inl h
          · exact .inr ⟨by simp [h], k⟩
        · rintro (h | ⟨h, k⟩)
          · exact .inl (.inr h)
          · rcases List.mem_cons.1 h with h | h
            · exact .inl (.inl h)
            · exact .inr ⟨h, k⟩
      · rw [if_neg hm]
        constructor
        · rintro (h | ⟨h, k⟩)
          · exact .inl h
          · exact .inr ⟨by simp [h], k⟩
        · rintro (h | ⟨h, k⟩)
          · exact .inl h
          · rcases List.mem_cons.1 h with h | h
            · subst h; exact absurd k hm
            · exact .inr ⟨h, k⟩
    · intro y hy z hz
      rcases putC_mem hy with ⟨h, _⟩ | h
      · subst h; exact hp.1 z hz
      · exact h2 y h z (by simp [hz])
theorem puts_rise : ∀ {l acc : List Ce}, Rise acc → Rise (putsC acc l)
  | [], _, h => h
  | c :: l, acc, h => puts_rise (l := l) (putC_rise h)
theorem puts_may : ∀ {l acc : List Ce}, (∀ x ∈ acc, x.may = true) → ∀ x ∈ putsC acc l, x.may = true
  | [], _, h => h
  | c :: l, acc, h => puts_may (l := l) (by
    intro x hx
    rcases putC_mem hx with ⟨rfl, hm⟩ | hx
    · exact hm
    · exact h x hx)
theorem puts_length : ∀ (l acc : List Ce), (putsC acc l).length ≤ acc.length + l.length
  | [], acc => by simp [putsC]
  | c :: l, acc => by
    have h1 := puts_length l (putC acc c)
    have h2 := putC_length c acc
    show (putsC (putC acc c) l).length ≤ _
    rw [List.length_cons]
    omega
/-- in which order they come makes no difference -/
theorem puts_perm {l m : List Ce} (h : l.Perm m) (hl : Unlike l) : putsC [] l = putsC [] m := by
  have hm : Unlike m := (h.pairwise_iff (fun {a b} h => same_no_symm h)).1 hl
  refine rise_unique (puts_rise List.Pairwise.nil) (puts_rise List.Pairwise.nil) fun x => ?_
  rw [mem_puts hl (by simp), mem_puts hm (by simp), h.mem_iff]
theorem turn_perm (l : List Ce) (k : Nat) : l.Perm (l.drop k ++ l.take k) := by
  conv => lhs; rw [← List.take_append_drop k l]
  exact List.perm_append_comm
/-- the cells ahead of a key, and the others -/
def lowC (L : List Ce) (key : List UInt8) : List Ce := L.filter fun c => Op.bytesLess c.k key
def highC (L : List Ce) (key : List UInt8) : List Ce := L.filter fun c => !Op.bytesLess c.k key
theorem bl_nil (a : List UInt8) : Op.bytesLess a [] = false := by cases a <;> rfl
theorem rangeC_low {L : List Ce} {key : List UInt8} (h : key ≠ []) : rangeC L [] key = lowC L key := by
  unfold rangeC lowC within
  congr 1
  funext c
  rw [bl_nil]
  simp [h]
theorem rangeC_high (L : List Ce) (key : List UInt8) : rangeC L key [] = highC L key := by
  unfold rangeC highC within
  congr 1
  funext c
  simp
theorem lowC_nil (L : List Ce) : lowC L [] = [] := by
  unfold lowC
  refine List.filter_eq_nil_iff.2 fun x _ => ?_
  rw [bl_nil]
  simp
theorem highC_nil (L : List Ce) : highC L [] = L := by
  unfold highC
  refine List.filter_eq_self.2 fun x _ => ?_
  rw [bl_nil]
  rfl
theorem rise_filter {l : List Ce} (h : Rise l) (p : Ce → Bool) : Rise (l.filter p) := h.sublist List.filter_sublist
theorem low_high {L : List Ce} (h : Rise L) (key : List UInt8) : lowC L key ++ highC L key = L := by
  refine rise_unique (rise_app.2 ⟨rise_filter h _, rise_filter h _, ?_⟩) h ?_
  · intro a ha b hb
    have ha2 := (List.mem_filter.1 ha).2
    have hb2 := (List.mem_filter.1 hb).2
    simp only [Bool.not_eq_true'] at hb2
    unfold aheadC
    rw [bl_le_trans hb2 ha2]
    rfl
  · intro x
    rw [List.mem_append]
    unfold lowC highC
    rw [List.mem_filter, List.mem_filter]
    cases Op.bytesLess x.k key <;> simp
theorem low_key {L : List Ce} {key : List UInt8} : ∀ x ∈ lowC L key, Op.bytesLess x.k key = true := fun x hx => (List.mem_filter.1 hx).2
theorem high_key {L : List Ce} {key : List UInt8} : ∀ x ∈ highC L key, Op.bytesLess x.k key = false := fun x hx => by
  have := (List.mem_filter.1 hx).2
  simpa using this
theorem low_high_apart {L : List Ce} {key : List UInt8} : ∀ x ∈ lowC L key, ∀ y ∈ highC L key, sameC x y = false := by
  intro x hx y hy
  cases e : sameC x y with
  | false => rfl
  | true =>
    unfold sameC at e
    simp only [Bool.and_eq_true, decide_eq_true_eq] at e
    have h1 := low_key x hx
    have h2 := high_key y hy
    rw [e.1, h2] at h1
    cases h1
theorem join_low_high {L : List Ce} (h : Rise L) (hm : ∀ x ∈ L, x.may = true) (key : List UInt8) : putsC (lowC L key) (highC L key) = L := by
  refine rise_unique (puts_rise (rise_filter h _)) h fun x => ?_
  rw [mem_puts (show Unlike (highC L key) from rise_unlike (rise_filter h _)) low_high_apart]
  unfold lowC highC
  rw [List.mem_filter, List.mem_filter]
  constructor
  · rintro (h | h)
    · exact h.1
    · exact h.1.1
  · intro hx
    have := hm x hx
    cases e : Op.bytesLess x.k key <;> simp [e, hx, this]
theorem join_high_low {L : List Ce} (h : Rise L) (hm : ∀ x ∈ L, x.may = true) (key : List UInt8) : putsC (highC L key) (lowC L key) = L := by
  refine rise_unique (puts_rise (rise_filter h _)) h fun x => ?_
  rw [mem_puts (show Unlike (lowC L key) from rise_unlike (rise_filter h _)) (fun y hy z hz => same_no_symm (low_high_apart z hz y hy))]
  unfold lowC highC
  rw [List.mem_filter, List.mem_filter]
  constructor
  · rintro (h | h)
    · exact h.1
    · exact h.1.1
  · intro hx
    have := hm x hx
    cases e : Op.bytesLess x.k key <;> simp [e, hx, this]
/-- sorted cells, in pages of eight -/
def chunks : Nat → List Ce → List (List Ce)
  | 0, _ => []
  | n + 1, l => if l = [] then [] else l.take 8 :: chunks n (l.drop 8)
theorem chunks_flat : ∀ (n : Nat) (l : List Ce), l.length ≤ n * 8 → (chunks n l).flatten = l
  | 0, l, h => by
    have : l = [] := List.eq_nil_of_length_eq_zero (by omega)
    simp [chunks, this]
  | n + 1, l, h => by
    rw [chunks]
    split
    · rename_i e; simp [e]
    · rw [List.flatten_cons, chunks_flat n _ (by rw [List.length_drop]; omega), List.take_append_drop]
theorem chunks_some : ∀ (n : Nat) (l : List Ce), ∀ g ∈ chunks n l, 0 < g.length ∧ g.length ≤ 16
  | 0, l, g, h => by simp [chunks] at h
  | n + 1, l, g, h => by
    rw [chunks] at h
    split at h
    · simp at h
    · rename_i e
      rcases List.mem_cons.1 h with rfl | h
      · have : 0 < l.length := List.length_pos_iff.2 e
        rw [List.length_take]
        omega
      · exact chunks_some n _ g h
theorem chunks_ok {n : Nat} {l : List Ce} (h : l.length ≤ n * 8) (hr : Rise l) (hm : ∀ x ∈ l, x.may = true) : PagesOk (chunks n l) :=
  ⟨chunks_some n l, by rw [chunks_flat n l h]; exact hr, by rw [chunks_flat n l h]; exact hm⟩
theorem sorted_rise {l : List Ce} : sortedB l = true ↔ Rise l ∧ ∀ x ∈ l, x.may = true := by
  have key : ∀ (l : List Ce) (p : Option Ce), sortedFrom p l = true ↔ Rise l ∧ (∀ x ∈ l, x.may = true) ∧ ∀ a, p = some a → ∀ x ∈ l, aheadC a x = true := by
    intro l
    induction l with
    | nil => intro p; simp [sortedFrom, Rise]
    | cons c l ih =>
      intro p
      simp only [sortedFrom, Bool.and_eq_true]
      rw [ih (some c)]
      constructor
      · rintro ⟨h1, h2, h3, h4⟩
        have hc := h4 c rfl
        refine ⟨List.pairwise_cons.2 ⟨hc, h2⟩, ?_, ?_⟩
        · intro x hx
          rcases List.mem_cons.1 hx with rfl | hx
          · exact okAfter_may h1
          · exact h3 x hx
        · rintro a rfl x hx
          have ha : aheadC a c = true := by
            unfold okAfter at h1
            simp only [Bool.and_eq_true] at h1
            exact h1.2
          rcases List.mem_cons.1 hx with rfl | hx
          · exact ha
          · exact ahead_trans ha (hc x hx)
      · rintro ⟨h1, h2, h3⟩
        have hp := List.pairwise_cons.1 h1
        refine ⟨?_, hp.2, fun x hx => h2 x (by simp [hx]), ?_⟩
        · cases p with
          | none => exact h2 c (by simp)
          | some a =>
            unfold okAfter
            simp only [Bool.and_eq_true]
            exact ⟨h2 c (by simp), h3 a rfl c (by simp)⟩
        · rintro a ha x hx
          simp only [Option.some.injEq] at ha
          subst ha
          exact hp.1 x hx
  have := key l none
  unfold sortedB
  rw [this]
  constructor
  · rintro ⟨h1, h2, _⟩; exact ⟨h1, h2⟩
  · rintro ⟨h1, h2⟩; exact ⟨h1, h2, fun a ha => by cases ha⟩
end Spoor
