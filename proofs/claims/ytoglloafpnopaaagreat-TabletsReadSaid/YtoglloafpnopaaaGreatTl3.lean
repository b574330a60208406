/- Plain facts, no program in sight: rows of keys that rise, and which of them stands in the middle. -/
import Derived.Test.YtoglloafpnopaaaGreatMgA
import Derived.Test.YtoglloafpnopaaaGreatKK1
import Derived.Lib.SlicesCompact
set_option linter.unusedSimpArgs false
set_option linter.unusedVariables false
namespace Spoor
open Go
theorem take_less : ∀ {n : Nat} {a b : List UInt8}, Op.bytesLess (b.take n) (a.take n) = true → Op.bytesLess b a = true
 | 0, a, b, h => by simp [Op.bytesLess] at h
 | n + 1, [], b, h => by cases b <;> simp [Op.bytesLess] at h
 | n + 1, x :: a, [], h => rfl
 | n + 1, x :: a, y :: b, h => by
   simp only [List.take_succ_cons, Op.bytesLess, Bool.or_eq_true, Bool.and_eq_true] at h ⊢
   rcases h with h | ⟨h1, h2⟩
   · exact .inl h
   · exact .inr ⟨h1, take_less h2⟩
theorem less_take : ∀ {n : Nat} {a b : List UInt8}, Op.bytesLess b (a.take n) = true → Op.bytesLess b a = true
 | 0, a, b, h => by simp [bl_nil] at h
 | n + 1, [], b, h => by simp [bl_nil] at h
 | n + 1, x :: a, [], h => rfl
 | n + 1, x :: a, y :: b, h => by
   simp only [List.take_succ_cons, Op.bytesLess, Bool.or_eq_true, Bool.and_eq_true] at h ⊢
   rcases h with h | ⟨h1, h2⟩
   · exact .inl h
   · exact .inr ⟨h1, less_take h2⟩
theorem take_lt : ∀ {n : Nat} {a b : List UInt8}, Op.bytesLess (a.take n) b = true → b.length ≤ n → Op.bytesLess a b = true
 | 0, a, b, h, hl => by
   have : b = [] := List.length_eq_zero_iff.1 (by omega)
   rw [this, bl_nil] at h
   cases h
 | n + 1, a, [], h, hl => by rw [bl_nil] at h; cases h
 | n + 1, [], y :: b, h, hl => rfl
 | n + 1, x :: a, y :: b, h, hl => by
   simp only [List.take_succ_cons, Op.bytesLess, Bool.or_eq_true, Bool.and_eq_true] at h ⊢
   rcases h with h | ⟨h1, h2⟩
   · exact .inl h
   · exact .inr ⟨h1, take_lt h2 (by simpa using hl)⟩
theorem rowK_cases {l : List UInt8} (h : rowK l ≠ []) : (∃ r, l = 115 :: r ∧ l.length = 17 ∧ rowK l = l.take 9) ∨ ∃ r, l = 120 :: r ∧ rowK l = l := by
 unfold rowK at h ⊢
 cases hp : parseK l with
 | none => rw [hp] at h; exact absurd rfl h
 | some p =>
   obtain ⟨hk, hc⟩ := parseK_some hp
   match l, hp with
   | [], hp => cases hp
   | c :: r, hp =>
     rw [parseK] at hp
     by_cases h1 : c = 115
     · left
       subst h1
       rw [if_pos rfl] at hp
       cases hb : big2 r with
       | none => rw [hb] at hp; cases hp
       | some ti =>
         obtain ⟨t, i⟩ := ti
         rw [hb] at hp
         obtain ⟨g1, g2, g3⟩ := big2_some hb
         have hkd : p.kind = 115 := by
          simp only at hp
          split at hp
          · cases hp; rfl
          · cases hp
         refine ⟨r, rfl, ?_, by simp only [hkd, if_true]⟩
         rw [List.length_cons, g3, List.length_append, big_length, big_length]
     · right
       rw [if_neg h1] at hp
       by_cases h2 : c = 120
       · subst h2
         have hkd : p.kind ≠ 115 := by
          rw [if_pos rfl] at hp
          split at hp
          · split at hp
            · split at hp
              · cases hp; show ¬ ((120 : Nat) = 115); decide
              · cases hp
            · cases hp
          · cases hp
         exact ⟨r, rfl, by simp only [if_neg hkd]⟩
       · rw [if_neg h2] at hp
         cases hp
theorem rowK_up {a b : List UInt8} (h : Op.bytesLess a b = true) (ha : rowK a ≠ []) (hb : rowK b ≠ []) : Op.bytesLess (rowK b) (rowK a) = false := by
 cases e : Op.bytesLess (rowK b) (rowK a) with
 | false => rfl
 | true =>
   exfalso
   have hba := bl_asymm h
   rcases rowK_cases ha with ⟨r, hr, -, ea⟩ | ⟨r, hr, ea⟩ <;> rcases rowK_cases hb with ⟨s, hs, -, eb⟩ | ⟨s, hs, eb⟩ <;> rw [ea, eb] at e
   · rw [take_less e] at hba; cases hba
   · rw [less_take e] at hba; cases hba
   · rw [hr, hs] at h
     simp [Op.bytesLess] at h
   · rw [e] at hba; cases hba
theorem rowK_behind {a b : List UInt8} (ha : rowK a ≠ []) (hb : rowK b ≠ []) (h : Op.bytesLess (rowK a) (rowK b) = true) : Op.bytesLess a (rowK b) = true := by
 rcases rowK_cases ha with ⟨r, hr, hl, ea⟩ | ⟨r, hr, ea⟩
 · rcases rowK_cases hb with ⟨s, hs, hl2, eb⟩ | ⟨s, hs, eb⟩
   · rw [ea] at h
     exact take_lt h (by rw [eb, List.length_take]; omega)
   · rw [eb, hr, hs]
     simp [Op.bytesLess]
 · rw [ea] at h
   exact h
def rowsK (L : List Ce) : List (List UInt8) := (L.map fun c => rowK c.k).filter fun r => decide (r ≠ [])
theorem rowsK_snoc {L : List Ce} {i : Nat} (hi : i < L.length) : rowsK (L.take (i + 1)) = rowsK (L.take i) ++ (if rowK (L.getD i Ce.zero).k = [] then [] else [rowK (L.getD i Ce.zero).k]) := by
 unfold rowsK
 rw [take_ce L i hi, List.map_append, List.filter_append]
 congr 1
 rw [List.map_singleton, List.filter_cons, List.filter_nil]
 by_cases h : rowK (L.getD i Ce.zero).k = []
 · rw [if_pos h, if_neg (by rw [decide_eq_true_iff]; exact fun h' => h' h)]
 · rw [if_neg h, if_pos (decide_eq_true h)]
theorem rowsK_length (L : List Ce) : (rowsK L).length ≤ L.length := Nat.le_trans (List.length_filter_le _ _) (by rw [List.length_map]; exact Nat.le_refl _)
def NoFall (l : List (List UInt8)) : Prop := l.Pairwise fun a b => Op.bytesLess b a = false
theorem rowsK_up {L : List Ce} (h : KeyUp L) : NoFall (rowsK L) := by
 unfold rowsK NoFall
 rw [List.pairwise_filter, List.pairwise_map]
 exact h.imp fun {a b} h ha hb => rowK_up h (of_decide_eq_true ha) (of_decide_eq_true hb)
theorem putK_last {s : List UInt8} : ∀ {K : List (List UInt8)}, KUp K → (∀ x ∈ K, Op.bytesLess s x = false) → putK K s = if s ∈ K then K else K ++ [s]
 | [], _, _ => by simp [putK]
 | a :: K, h, hs => by
   have h1 := List.pairwise_cons.1 h
   have ih := putK_last (s := s) h1.2 fun x hx => hs x (List.mem_cons_of_mem _ hx)
   rw [putK]
   rcases bl_or a s with e | e | e
   · have hne : s ≠ a := fun e2 => by rw [e2, bl_irrefl] at e; cases e
     rw [if_pos e, ih]
     by_cases hm : s ∈ K
     · rw [if_pos hm, if_pos (List.mem_cons_of_mem _ hm)]
     · rw [if_neg hm, if_neg (by simp [hne, hm])]
       rfl
   · subst e
     rw [bl_irrefl, if_neg (by simp), if_pos rfl, if_pos List.mem_cons_self]
   · rw [hs a List.mem_cons_self] at e
     cases e
theorem noFall_at {l : List (List UInt8)} (h : NoFall l) {i j : Nat} (hij : i < j) (hj : j < l.length) : Op.bytesLess (l[j]'hj) (l[i]'(by omega)) = false := List.pairwise_iff_getElem.1 h i j (by omega) hj hij
theorem compact_puts {l : List (List UInt8)} (h : NoFall l) : Lib.compact l = putsK [] l := by
 have key : ∀ m, m ≤ l.length → Lib.compactUpTo l.toArray m = putsK [] (l.take m) := by
  intro m
  induction m with
  | zero => intro _; rfl
  | succ m ih =>
    intro hm
    have hml : m < l.length := by omega
    have e1 : Lib.compactUpTo l.toArray (m + 1) = Lib.compactUpTo l.toArray m ++ (if Lib.keeps l.toArray m then [l[m]] else []) := by
     unfold Lib.compactUpTo
     rw [List.range_succ, List.filter_append, List.map_append]
     congr 1
     rw [List.filter_cons, List.filter_nil]
     have e0 : l.toArray[m]! = l[m] := by simp [hml]
     by_cases hk : Lib.keeps l.toArray m = true
     · rw [if_pos hk, if_pos hk, List.map_singleton, e0]
     · rw [if_neg hk, if_neg hk]; rfl
    have e2 : l.take (m + 1) = l.take m ++ [l[m]] := by rw [List.take_add_one]; simp [hml]
    have e3 : putsK [] (l.take m ++ [l[m]]) = putK (putsK [] (l.take m)) l[m] := by unfold putsK; rw [List.foldl_append]; rfl
    rw [e1, ih (by omega), e2, e3, putK_last (putsK_up .nil)]
    · have hmem : l[m] ∈ putsK [] (l.take m) ↔ l[m] ∈ l.take m := by rw [putsK_mem]; simp
      by_cases hk : Lib.keeps l.toArray m = true
      · rw [if_pos hk, if_neg]
        rw [hmem]
        intro hin
        obtain ⟨j, hj, ej⟩ := List.mem_iff_getElem.1 hin
        rw [List.length_take] at hj
        rw [List.getElem_take] at ej
        have hk2 := of_decide_eq_true hk
        rcases hk2 with hk2 | hk2
        · omega
        · apply hk2
          have e5 : l.toArray[m]! = l[m] := by simp [hml]
          have e6 : l.toArray[m - 1]! = l[m - 1] := by simp [show m - 1 < l.length by omega]
          rw [e5, e6]
          have h1 := noFall_at h (i := m - 1) (j := m) (by omega) hml
          by_cases hjm : j = m - 1
          · subst hjm; exact ej.symm
          · have h2 := noFall_at h (i := j) (j := m - 1) (by omega) (by omega)
            rw [ej] at h2
            rcases bl_or l[m - 1] l[m] with e | e | e
            · rw [h2] at e; cases e
            · exact e.symm
            · rw [h1] at e; cases e
      · rw [if_neg hk, if_pos, List.append_nil]
        rw [hmem]
        have hk2 : ¬ (m = 0 ∨ l.toArray[m]! ≠ l.toArray[m - 1]!) := fun h' => hk (decide_eq_true h')
        have hm0 : m ≠ 0 := fun e => hk2 (.inl e)
        have e7 : l.toArray[m]! = l.toArray[m - 1]! := Classical.byContradiction fun e => hk2 (.inr e)
        have e5 : l.toArray[m]! = l[m] := by simp [hml]
        have e6 : l.toArray[m - 1]! = l[m - 1] := by simp [show m - 1 < l.length by omega]
        rw [e5, e6] at e7
        rw [e7]
        exact List.mem_iff_getElem.2 ⟨m - 1, by rw [List.length_take]; omega, by rw [List.getElem_take]⟩
    · intro x hx
      rw [putsK_mem] at hx
      rcases hx with hx | hx
      · cases hx
      · obtain ⟨j, hj, ej⟩ := List.mem_iff_getElem.1 hx
        rw [List.length_take] at hj
        rw [List.getElem_take] at ej
        rw [← ej]
        exact noFall_at h (by omega) hml
 have := key l.length (Nat.le_refl _)
 rw [List.take_length] at this
 exact this
def midR (F T : List UInt8) (R : List (List Ce)) : List (List UInt8) := putsK [] (rowsK (tabR F T R [] []))
theorem midR_length (F T : List UInt8) (R : List (List Ce)) : (midR F T R).length ≤ (tabR F T R [] []).length := by
 have h1 := putsK_length (rowsK (tabR F T R [] [])) []
 have h2 := rowsK_length (tabR F T R [] [])
 unfold midR
 simp only [List.length_nil, Nat.zero_add] at h1
 omega
theorem rowsK_mem {L : List Ce} {r : List UInt8} : r ∈ rowsK L ↔ r ≠ [] ∧ ∃ c ∈ L, rowK c.k = r := by
 unfold rowsK
 rw [List.mem_filter, List.mem_map, decide_eq_true_iff]
 exact And.comm
theorem midR_mem {F T : List UInt8} {R : List (List Ce)} {r : List UInt8} : r ∈ midR F T R ↔ r ≠ [] ∧ ∃ c ∈ tabR F T R [] [], rowK c.k = r := by
 unfold midR
 rw [putsK_mem, rowsK_mem]
 simp
theorem midR_from {F T : List UInt8} {R : List (List Ce)} (hR : ∀ r ∈ R, Rise r) {i : Nat} (h0 : 0 < i) (hi : i < (midR F T R).length) : Op.bytesLess F ((midR F T R).getD i []) = true := by
 have hup : KUp (midR F T R) := putsK_up .nil
 have e0 : (midR F T R).getD i [] = (midR F T R)[i] := by simp [List.getD, hi]
 rw [e0]
 obtain ⟨n0, c0, hc0, r0⟩ := midR_mem.1 (List.getElem_mem (show 0 < (midR F T R).length by omega))
 obtain ⟨n1, c1, hc1, r1⟩ := midR_mem.1 (List.getElem_mem hi)
 have hlt : Op.bytesLess (midR F T R)[0] (midR F T R)[i] = true := List.pairwise_iff_getElem.1 hup 0 i (by omega) hi h0
 have hb := rowK_behind (a := c0.k) (b := c1.k) (by rw [r0]; exact n0) (by rw [r1]; exact n1) (by rw [r0, r1]; exact hlt)
 rw [r1] at hb
 have hin := ((tabR_mem hR).1 hc0).2.2
 unfold inTab at hin
 rw [Bool.and_eq_true, Bool.not_eq_true'] at hin
 rcases bl_or F c0.k with h | h | h
 · exact blk_trans h hb
 · rw [← h] at hb; exact hb
 · rw [hin.1] at h; cases h
end Spoor
