/- Plain facts, no program in sight: the statements on which spans are taken. -/
import Derived.Test.YtfkjdjdgcegniaaRows0
namespace Spoor

/-- the last cell of a key -/
def lastOf (S : List Ce) (key : List UInt8) : Option Ce := S.reverse.find? fun c => c.k == key
theorem lastOf_some {S : List Ce} {key : List UInt8} {c : Ce} (h : lastOf S key = some c) : c ∈ S ∧ c.k = key := by
  unfold lastOf at h
  refine ⟨?_, ?_⟩
  · have := List.mem_of_find?_eq_some h
    simpa using this
  · have := List.find?_some h
    simpa using this
theorem lastOf_none {S : List Ce} {key : List UInt8} : lastOf S key = none ↔ ∀ c ∈ S, c.k ≠ key := by
  unfold lastOf
  simp [List.find?_eq_none]
theorem lastOf_isSome {S : List Ce} {key : List UInt8} {c : Ce} (h : c ∈ S) (hk : c.k = key) : ∃ d, lastOf S key = some d := by
  cases e : lastOf S key with
  | some d => exact ⟨d, rfl⟩
  | none => exact absurd hk (lastOf_none.1 e c h)
theorem mem_cellsOf {l : List Sp} {c : Ce} : c ∈ cellsOf l ↔ ∃ x ∈ l, c = cellA x ∨ c = cellI x := by
  unfold cellsOf
  simp only [List.mem_flatMap, List.mem_cons, List.not_mem_nil, or_false]
theorem key_ne (x y : Sp) : (cellI x).k ≠ (cellA y).k := by
  unfold cellI cellA xKey sKey
  simp
def sameIds (x y : Sp) : Bool := decide (x.tr = y.tr) && decide (x.id = y.id)
theorem key_ids {x y : Sp} (hx : x.ok = true) (hy : y.ok = true) : (sKey x.tr x.id == sKey y.tr y.id) = sameIds x y := by
  rw [Bool.eq_iff_iff, beq_iff_eq, sKey_inj (ok_ids hx) (ok_ids hy)]
  unfold sameIds
  simp
/-- what the chapter's answer takes -/
def refTook (there : List Sp) (now : Int) (out : List Sp) (x : Sp) : Bool :=
  x.ok && !lateB x.st now && !(there.any fun y => sameIds y x && !lateB y.st now) && !(out.any fun y => sameIds y x)
def refTake (there : List Sp) (now : Int) : List Sp → List Sp → List Sp
  | out, [] => out
  | out, x :: l => refTake there now (if refTook there now out x then out ++ [x] else out) l
theorem refTake_append (there : List Sp) (now : Int) : ∀ (l m acc : List Sp), refTake there now acc (l ++ m) = refTake there now (refTake there now acc l) m
  | [], _, _ => rfl
  | x :: l, m, acc => by
    rw [List.cons_append, refTake, refTake, refTake_append]
theorem refTake_snoc (there : List Sp) (now : Int) (l acc : List Sp) (x : Sp) : refTake there now acc (l ++ [x]) = (if refTook there now (refTake there now acc l) x then refTake there now acc l ++ [x] else refTake there now acc l) := by
  rw [refTake_append]
  rfl
/-- the cells of those that may be -/
def shelfOf (l : List Sp) : List Ce := cellsOf (l.filter Sp.ok)
/-- the last span of each trace and ID that is there -/
def lastSpans (S : List Ce) : List Sp := S.filterMap fun c => match spanR c with | some x => if lastOf S c.k = some c then some x else none | none => none
theorem mem_lastSpans {S : List Ce} {x : Sp} : x ∈ lastSpans S ↔ ∃ c ∈ S, spanR c = some x ∧ lastOf S c.k = some c := by
  unfold lastSpans
  simp only [List.mem_filterMap]
  constructor
  · rintro ⟨c, hc, h⟩
    cases e : spanR c with
    | none => rw [e] at h; cases h
    | some y =>
      rw [e] at h
      simp only at h
      split at h
      · rename_i h2
        simp only [Option.some.injEq] at h
        subst h
        exact ⟨c, hc, e, h2⟩
      · cases h
  · rintro ⟨c, hc, h1, h2⟩
    refine ⟨c, hc, ?_⟩
    rw [h1]
    simp only [h2, if_true]
theorem free_same {l : List Sp} (x : Sp) (hx : x.ok = true) (now : Int) :
    freeR (lastOf (shelfOf l) (sKey x.tr x.id)) now = !((lastSpans (shelfOf l)).any fun y => sameIds y x && !lateB y.st now) := by
  cases e : lastOf (shelfOf l) (sKey x.tr x.id) with
  | none =>
    unfold freeR
    simp only
    symm
    rw [Bool.not_eq_true', List.any_eq_false]
    intro y hy
    obtain ⟨c, hc, h1, h2⟩ := mem_lastSpans.1 hy
    obtain ⟨g1, g2, g3⟩ := spanR_some h1
    have := lastOf_none.1 e c hc
    rw [g3] at this
    have hs : sameIds y x = false := by rw [← key_ids g1 hx]; exact beq_eq_false_iff_ne.2 this
    simp [hs]
  | some c =>
    unfold freeR
    simp only
    obtain ⟨hc, hk⟩ := lastOf_some e
    obtain ⟨y, hy, hcy⟩ := mem_cellsOf.1 hc
    have hyo : y.ok = true := (List.mem_filter.1 hy).2
    have hcA : c = cellA y := by
      rcases hcy with h | h
      · exact h
      · rw [h] at hk
        exact absurd hk (key_ne y x)
    subst hcA
    rw [dropR_cellA hyo]
    have hsp := spanR_cellA hyo
    have hyx : sameIds y x = true := by rw [← key_ids hyo hx]; simpa [cellA] using hk
    have hmem : y ∈ lastSpans (shelfOf l) := mem_lastSpans.2 ⟨cellA y, hc, hsp, by rw [hk]; exact e⟩
    cases hl : lateB y.st now with
    | false =>
      symm
      rw [Bool.not_eq_false', List.any_eq_true]
      exact ⟨y, hmem, by rw [hyx, hl]; rfl⟩
    | true =>
      symm
      rw [Bool.not_eq_true', List.any_eq_false]
      intro z hz
      obtain ⟨d, hd, h1, h2⟩ := mem_lastSpans.1 hz
      obtain ⟨g1, g2, g3⟩ := spanR_some h1
      cases hzx : sameIds z x with
      | false => simp
      | true =>
        have hkz : sKey z.tr z.id = sKey x.tr x.id := by have := key_ids g1 hx; rw [hzx] at this; simpa using this
        rw [g3, hkz, e] at h2
        simp only [Option.some.injEq] at h2
        subst h2
        rw [hsp] at h1
        simp only [Option.some.injEq] at h1
        subst h1
        simp [hl]
theorem any_ids {x : Sp} (hx : x.ok = true) : ∀ {acc : List Sp}, (∀ y ∈ acc, y.ok = true) → (acc.any fun y => sKey y.tr y.id == sKey x.tr x.id) = acc.any fun y => sameIds y x
  | [], _ => rfl
  | y :: acc, h => by
    rw [List.any_cons, List.any_cons, key_ids (h y (by simp)) hx, any_ids hx (fun z hz => h z (by simp [hz]))]
theorem take_same (there : List Sp) (now : Int) : ∀ (l acc : List Sp), (∀ y ∈ acc, y.ok = true) → takeR (lastOf (shelfOf there)) now acc l = refTake (lastSpans (shelfOf there)) now acc l
  | [], _, _ => rfl
  | x :: l, acc, h => by
    rw [takeR, refTake]
    have e : taken (lastOf (shelfOf there)) now acc x = refTook (lastSpans (shelfOf there)) now acc x := by
      unfold taken refTook
      cases hx : x.ok with
      | false => rfl
      | true =>
        rw [any_ids hx h, free_same x hx now]
        simp only [Bool.true_and]
        cases lateB x.st now <;> cases (acc.any fun y => sameIds y x) <;> simp
    rw [e]
    refine take_same there now l _ ?_
    intro y hy
    split at hy
    · rename_i ht
      rcases List.mem_append.1 hy with hy | hy
      · exact h y hy
      · simp only [List.mem_singleton] at hy
        subst hy
        unfold refTook at ht
        simp only [Bool.and_eq_true] at ht
        exact ht.1.1.1
    · exact h y hy
/-- no two of one trace and ID -/
def apartS (l : List Sp) : Prop := l.Pairwise fun x y => sameIds x y = false
def takes (now : Int) (x : Sp) : Bool := x.ok && !lateB x.st now
theorem sameIds_symm (x y : Sp) : sameIds x y = sameIds y x := by
  unfold sameIds
  rw [show (decide (x.tr = y.tr) : Bool) = decide (y.tr = x.tr) from decide_eq_decide.2 eq_comm, show (decide (x.id = y.id) : Bool) = decide (y.id = x.id) from decide_eq_decide.2 eq_comm]
/-- of what is there nothing is taken, of the others those that may be -/
theorem take_part (now : Int) (b : List Sp) (hb : ∀ y ∈ b, takes now y = true) : ∀ (l acc : List Sp), (∀ y ∈ acc, y.ok = true) → (l.Pairwise fun x y => sameIds x y = false) → (∀ x ∈ l, ∀ y ∈ acc, sameIds y x = false) →
    takeR (lastOf (cellsOf b)) now acc l = acc ++ l.filter fun x => takes now x && !(b.any fun y => sameIds y x)
  | [], _, _, _, _ => by simp [takeR]
  | x :: l, acc, h, hp, hd => by
    rw [takeR]
    have hbo : ∀ y ∈ b, y.ok = true := fun y hy => by have := hb y hy; unfold takes at this; simp only [Bool.and_eq_true] at this; exact this.1
    have e : taken (lastOf (cellsOf b)) now acc x = (takes now x && !(b.any fun y => sameIds y x)) := by
      unfold taken takes
      cases hx : x.ok with
      | false => rfl
      | true =>
        have h1 : (acc.any fun y => sKey y.tr y.id == sKey x.tr x.id) = false := by
          rw [any_ids hx h, List.any_eq_false]
          intro y hy
          rw [hd x (by simp) y hy]
          simp
        have h2 : freeR (lastOf (cellsOf b) (sKey x.tr x.id)) now = !(b.any fun y => sameIds y x) := by
          cases e : lastOf (cellsOf b) (sKey x.tr x.id) with
          | none =>
            unfold freeR
            symm
            simp only [Bool.not_eq_true', List.any_eq_false]
            intro y hy hyx
            have := lastOf_none.1 e (cellA y) (mem_cellsOf.2 ⟨y, hy, .inl rfl⟩)
            rw [← key_ids (hbo y hy) hx] at hyx
            exact this (by simpa [cellA] using hyx)
          | some c =>
            unfold freeR
            simp only
            obtain ⟨hc, hk⟩ := lastOf_some e
            obtain ⟨y, hy, hcy⟩ := mem_cellsOf.1 hc
            have hcA : c = cellA y := by
              rcases hcy with h | h
              · exact h
              · rw [h] at hk
                exact absurd hk (key_ne y x)
            subst hcA
            rw [dropR_cellA (hbo y hy)]
            have hl : lateB y.st now = false := by have := hb y hy; unfold takes at this; simp only [Bool.and_eq_true, Bool.not_eq_true'] at this; exact this.2
            rw [hl]
            symm
            rw [Bool.not_eq_false', List.any_eq_true]
            exact ⟨y, hy, by rw [← key_ids (hbo y hy) hx]; simpa [cellA] using hk⟩
        rw [h1, h2]
        simp
    rw [e]
    have hp2 := List.pairwise_cons.1 hp
    cases ht : (takes now x && !(b.any fun y => sameIds y x)) with
    | false =>
      simp only [Bool.false_eq_true, if_false]
      rw [take_part now b hb l acc h hp2.2 (fun z hz y hy => hd z (by simp [hz]) y hy), List.filter_cons, ht]
      rfl
    | true =>
      simp only [if_true]
      rw [take_part now b hb l (acc ++ [x]) ?_ hp2.2 ?_, List.filter_cons, ht]
      · simp
      · intro y hy
        rcases List.mem_append.1 hy with hy | hy
        · exact h y hy
        · simp only [List.mem_singleton] at hy
          subst hy
          simp only [Bool.and_eq_true] at ht
          have := ht.1
          unfold takes at this
          simp only [Bool.and_eq_true] at this
          exact this.1
      · intro z hz y hy
        rcases List.mem_append.1 hy with hy | hy
        · exact hd z (by simp [hz]) y hy
        · simp only [List.mem_singleton] at hy
          subst hy
          exact hp2.1 z hz
theorem sameIds_self (x : Sp) : sameIds x x = true := by unfold sameIds; simp
theorem once_first {now : Int} {l : List Sp} (h : l.Pairwise fun x y => sameIds x y = false) : takeR (lastOf []) now [] l = l.filter (takes now) := by
  have := take_part now [] (by simp) l [] (by simp) h (by simp)
  rw [show cellsOf [] = [] from rfl] at this
  rw [this]
  simp
theorem once_again {now : Int} {l : List Sp} (h : l.Pairwise fun x y => sameIds x y = false) : takeR (lastOf (cellsOf (l.filter (takes now)))) now [] l = [] := by
  rw [take_part now (l.filter (takes now)) (fun y hy => (List.mem_filter.1 hy).2) l [] (by simp) h (by simp), List.nil_append, List.filter_eq_nil_iff]
  intro x hx
  cases ht : takes now x with
  | false => simp
  | true =>
    have : ((l.filter (takes now)).any fun y => sameIds y x) = true := List.any_eq_true.2 ⟨x, List.mem_filter.2 ⟨hx, ht⟩, sameIds_self x⟩
    rw [this]
    simp
theorem piece_parts (l : List Sp) {lo a k : Nat} (h1 : lo ≤ a) : (l.drop lo).take (a + k - lo) = (l.drop lo).take (a - lo) ++ (l.drop a).take k := by
  rw [show a + k - lo = (a - lo) + k by omega, List.take_add, List.drop_drop, show lo + (a - lo) = a by omega]
theorem once_step {now : Int} {l : List Sp} (h : l.Pairwise fun x y => sameIds x y = false) {lo a k : Nat} (h1 : lo ≤ a) :
    takeR (lastOf (cellsOf ((l.take a).filter (takes now)))) now [] ((l.drop lo).take (a + k - lo)) = ((l.drop a).take k).filter (takes now) := by
  have hsub : ((l.drop lo).take (a + k - lo)).Pairwise fun x y => sameIds x y = false := h.sublist ((List.take_sublist _ _).trans (List.drop_sublist _ _))
  rw [take_part now ((l.take a).filter (takes now)) (fun y hy => (List.mem_filter.1 hy).2) _ [] (by simp) hsub (by simp), List.nil_append, piece_parts l h1, List.filter_append]
  have e1 : ((l.drop lo).take (a - lo)).filter (fun x => takes now x && !(((l.take a).filter (takes now)).any fun y => sameIds y x)) = [] := by
    rw [List.filter_eq_nil_iff]
    intro x hx
    cases ht : takes now x with
    | false => simp
    | true =>
      have hm : x ∈ l.take a := by
        rw [← List.take_append_drop lo (l.take a)]
        refine List.mem_append_right _ ?_
        rw [List.drop_take]
        exact hx
      have : (((l.take a).filter (takes now)).any fun y => sameIds y x) = true := List.any_eq_true.2 ⟨x, List.mem_filter.2 ⟨hm, ht⟩, sameIds_self x⟩
      rw [this]
      simp
  rw [e1, List.nil_append]
  refine List.filter_congr ?_
  intro x hx
  have hx2 : x ∈ l.drop a := List.mem_of_mem_take hx
  have hf : (((l.take a).filter (takes now)).any fun y => sameIds y x) = false := by
    rw [List.any_eq_false]
    intro y hy
    have hy2 := (List.mem_filter.1 hy).1
    have hpp : (l.take a ++ l.drop a).Pairwise fun x y => sameIds x y = false := by rw [List.take_append_drop]; exact h
    rw [(List.pairwise_append.1 hpp).2.2 y hy2 x hx2]
    simp
  rw [hf]
  simp
theorem once_next {now : Int} (l : List Sp) (a k : Nat) : (l.take a).filter (takes now) ++ ((l.drop a).take k).filter (takes now) = (l.take (a + k)).filter (takes now) := by
  rw [← List.filter_append, ← List.take_add]
theorem cellsOf_append (l m : List Sp) : cellsOf (l ++ m) = cellsOf l ++ cellsOf m := by simp [cellsOf]
theorem cellsOf_length (l : List Sp) : (cellsOf l).length = 2 * l.length := by
  induction l with
  | nil => rfl
  | cons x l ih =>
    have e : cellsOf (x :: l) = [cellA x, cellI x] ++ cellsOf l := by simp [cellsOf]
    rw [e, List.length_append, ih, List.length_cons]
    simp only [List.length_cons, List.length_nil]
    omega
end Spoor
