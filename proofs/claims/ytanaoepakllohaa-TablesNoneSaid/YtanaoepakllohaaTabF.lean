/- A builder is read: which blocks that changes. -/
import Derived.Test.YtanaoepakllohaaTabE
import Derived.Lib.FrozenHead
import Derived.Lib.UnsafeStr
namespace Go.Proofs.Ytanaoepakllohaa
set_option maxRecDepth 16000
open Go.RowKit Spoor
set_option linter.unusedVariables false

/-- a builder that may have been read -/
def BldR (b : Nat) (l : List UInt8) (fs : List Nat) (w : World) : Prop :=
  b ∈ fs ∧ (∀ x ∈ fs, x < w.heap.size) ∧ ∃ p v, (p = .pointer none ∨ p = .pointer (some ⟨b, 0, none⟩)) ∧ Lib.BuilderAtF 62 5 0 b p (Lib.byteCells l) w ∧ w.heap[b]? = some (.cells #[p, v] 62 (0, 0)) ∧ (∀ k, v.ownBlock = some k → k ∈ fs) ∧ (l = [] → v = .slice none 0 0)
theorem BldR.of {b : Nat} {l : List UInt8} {fs : List Nat} {w : World} (h : BldF b l fs w) (hl : l ≠ [] ∨ ∀ p v, w.heap[b]? = some (.cells #[p, v] 62 (0, 0)) → v = .slice none 0 0) : BldR b l fs w := by
  obtain ⟨h1, h2, p, v, hp, h3, h4, h5⟩ := h
  refine ⟨h1, h2, p, v, hp, ⟨Nat.zero_le _, v, h3, World.ownsRowF_of (by rw [byteCells_length]; exact h4), fun e => (h5 b e).2 rfl⟩, h3, fun k hk => (h5 k hk).1, fun e => ?_⟩
  rcases hl with hl | hl
  · exact absurd e hl
  · exact hl p v h3
theorem BldR.same {b : Nat} {l : List UInt8} {fs : List Nat} {w w' : World} (h : BldR b l fs w) (hk : ∀ x ∈ fs, w'.heap[x]? = w.heap[x]?) (hs : w.heap.size ≤ w'.heap.size) : BldR b l fs w' := by
  obtain ⟨h1, h2, p, v, hp, ⟨a1, v1, a2, a3, a4⟩, h3, h5, h6⟩ := h
  obtain rfl : v1 = v := by
    rw [h3] at a2
    injection a2 with a2
    injection a2 with a2
    simpa using a2.symm
  refine ⟨h1, fun x hx => Nat.lt_of_lt_of_le (h2 x hx) hs, p, v1, hp, ⟨a1, v1, (hk b h1).trans a2, ⟨a3.1, ?_⟩, a4⟩, (hk b h1).trans h3, h5, h6⟩
  rcases a3.2 with h | ⟨g, cap, cur, fz, rfl, hb, hg, h7⟩
  · exact .inl h
  · exact .inr ⟨g, cap, cur, fz, rfl, hb, (hk g (h5 g rfl)).trans hg, h7⟩
theorem BldR.fr {b : Nat} {l : List UInt8} {fs S : List Nat} {w w' : World} (h : BldR b l fs w) (f : Fr S w w') (hd : ∀ x ∈ fs, x ∉ S) : BldR b l fs w' := by
  have h2 := h.2.1
  exact h.same (fun x hx => f.block x (h2 x hx) (hd x hx)) f.size
theorem BldR.later {b : Nat} {l : List UInt8} {fs : List Nat} {w w' : World} (h : BldR b l fs w) (hb : Below w.heap.size w w') : BldR b l fs w' := h.fr (S := []) (Fr.of_below hb) (by simp)
theorem fr_freeze {S : List Nat} {a w : World} (h : Fr S a w) (g n : Nat) (hg : g ∈ S) : Fr S a (w.freeze ⟨g, 0, none⟩ n) := by
  unfold World.freeze
  split
  · exact h
  · refine ⟨h.os, h.tape, h.output, by have := h.size; simpa using this, fun k hk hm => ?_⟩
    refine Eq.trans ?_ (h.block k hk hm)
    simp only [Array.getElem?_modify]
    rw [if_neg (fun e => hm (by rw [← e]; exact hg))]
theorem freeze_size (w : World) (g n : Nat) : (w.freeze ⟨g, 0, none⟩ n).heap.size = w.heap.size := by
  unfold World.freeze
  split
  · rfl
  · simp
theorem freeze_other (w : World) (g n k : Nat) (h : k ≠ g) : (w.freeze ⟨g, 0, none⟩ n).heap[k]? = w.heap[k]? := by
  unfold World.freeze
  split
  · rfl
  · simp only [Array.getElem?_modify]
    rw [if_neg (fun e => h e.symm)]
set_option maxHeartbeats 1000000 in
set_option maxRecDepth 100000 in
theorem strF_any (b : Nat) (l : List UInt8) (fs : List Nat) (w : World) (h : BldR b l fs w) :
    Calls Try.prog 34 #[.pointer (some ⟨b, 0, none⟩)] w fun e w' => e = .returned (.string ⟨l.toArray⟩) ∧ BldR b l fs w' ∧ Fr fs w w' := by
  obtain ⟨h1, h2, p, v, hp, hA, h3, h5, h6⟩ := id h
  obtain ⟨-, v1, a2, hown, hne⟩ := id hA
  obtain rfl : v1 = v := by
    rw [h3] at a2
    injection a2 with a2
    injection a2 with a2
    simpa using a2.symm
  by_cases h0 : l = []
  · obtain rfl := h6 h0
    subst h0
    have c1 : w.drew.cell? ⟨b, 1, none⟩ = some (.slice none 0 0) := by
      have : w.drew.heap[b]? = some (.cells #[p, .slice none 0 0] 62 (0, 0)) := h3
      rw [Lib.cell_of_heap this]; rfl
    have hUS := Lib.run_unsafeString_none (P := Try.prog) w.drew 98 3 9 none
    have hSD : (Builtin.unsafeSliceData_ #[60] 98 #[.slice none 0 0]).run Try.prog w.drew = .ok (.pointer none) w.drew := rfl
    have hd := h.later (Below.drew (Below.refl _ w))
    have hf : Fr fs w w.drew := Fr.of_below (Below.drew (Below.refl _ w))
    have HD := Lib.hid (And.intro hd hf)
    clear h h1 h2 hp hA h3 h5 h6 a2 hown hne hd hf
    go_enter Try.func34, Try.ntmps34
    go_wp2_with fail
    go_region_with fail
    all_goals
      go_wp2_with fail
      go_ret
      exact ⟨rfl, HD.out⟩
  · have hl0 : l.length ≠ 0 := by simpa using h0
    rw [Lib.byteCells_length] at hown
    obtain ⟨g, cap, cur, fz, rfl, hbg, hg, hfz, hnc, hcm, hcs, htake⟩ : ∃ g cap cur fz, v1 = .slice (some ⟨g, 0, none⟩) l.length cap ∧ 0 ≤ g ∧ w.heap[g]? = some (.cells cur 5 fz) ∧ fz.2 ≤ l.length * 1 ∧ l.length ≤ cap ∧ cap ≤ maxLen ∧ cur.size = cap * 1 ∧ cur.toList.take (l.length * 1) = Lib.byteCells l := by
      rcases hown.2 with ⟨_, hz⟩ | ⟨g, cap, cur, fz, hv, r⟩
      · exact absurd hz hl0
      · exact ⟨g, cap, cur, fz, hv, r⟩
    have hb' : w.drew.heap[b]? = some (.cells #[p, .slice (some ⟨g, 0, none⟩) l.length cap] 62 (0, 0)) := h3
    have c1 : w.drew.cell? ⟨b, 1, none⟩ = some (.slice (some ⟨g, 0, none⟩) l.length cap) := by rw [Lib.cell_of_heap hb']; rfl
    have hSD : (Builtin.unsafeSliceData_ #[60] 98 #[.slice (some ⟨g, 0, none⟩) l.length cap]).run Try.prog w.drew = .ok (.pointer (some ⟨g, 0, none⟩)) w.drew :=
      Lib.run_unsafeSliceData_row _ _ _ _ _ _ (by omega)
    have hUS : (Builtin.unsafeString_ #[98, 3] 9 #[.pointer (some ⟨g, 0, none⟩), .int .i64 l.length]).run Try.prog w.drew = .ok (.string ⟨l.toArray⟩) (w.drew.freeze ⟨g, 0, none⟩ l.length) := by
      refine Lib.run_unsafeString_row w.drew 98 3 9 5 Try.underlying98 (by kernel_rfl) g cur.size (by have hg' : w.drew.heap[g]? = some (.cells cur 5 fz) := hg; simp [World.shape?, hg']) l h0 (by omega) (by unfold maxLen at hcm; omega) ?_
      intro j x hx
      have := hown.cells (g := g) rfl j (.int .u8 x.toNat) (by simp [Lib.byteCells, hx])
      exact this
    have hgb : g ≠ b := fun e => hne (by simp [Value.ownBlock, e])
    have hgf : g ∈ fs := h5 g rfl
    have hkeep : BldR b l fs (w.drew.freeze ⟨g, 0, none⟩ l.length) := by
      have hF := (hA.drew).froze (g := g) (cap := cap) (by rw [Lib.byteCells_length]; exact c1)
      rw [Lib.byteCells_length] at hF
      refine ⟨h1, fun x hx => by rw [freeze_size]; exact h2 x hx, p, _, hp, hF, ?_, h5, h6⟩
      rw [freeze_other _ _ _ _ (fun e => hgb e.symm)]
      exact h3
    have hf : Fr fs w (w.drew.freeze ⟨g, 0, none⟩ l.length) := fr_freeze (Fr.of_below (Below.drew (Below.refl _ w))) g _ hgf
    have HD := Lib.hid (And.intro hkeep hf)
    clear h h1 h2 hp hA h3 h5 h6 a2 hown hne hkeep hf hg hfz hnc hcm hcs htake hgb hgf hb' hl0
    go_enter Try.func34, Try.ntmps34
    go_wp2_with fail
    go_region_with fail
    all_goals
      go_wp2_with fail
      go_ret
      exact ⟨rfl, HD.out⟩
theorem lenF_any (b : Nat) (l : List UInt8) (fs : List Nat) (w : World) (h : BldR b l fs w) :
    Calls Try.prog 36 #[.pointer (some ⟨b, 0, none⟩)] w fun e w' => e = .returned (.int .i64 l.length) ∧ w' = w := by
  obtain ⟨h1, h2, p, v, hp, hA, h3, h5, h6⟩ := h
  have hB : Lib.IsBuilderF 62 5 0 b (Lib.byteCells l) w := by
    rcases hp with rfl | rfl
    · exact .inl hA
    · exact .inr hA
  refine (Try.Builder_Len_f 0 b _ w hB).mono ?_
  rintro e w' ⟨rfl, rfl⟩
  exact ⟨by rw [byteCells_length], rfl⟩
end Go.Proofs.Ytanaoepakllohaa
