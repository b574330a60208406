/- does: some of the chapter's examples. The reference's Get, Range and Open. TablesBuild's walk, and what all walks of the chapter share. -/
import Derived.Test.YtoglloafpnopaaaGreatTC
import Derived.Test.YtoglloafpnopaaaGreatTK
import Derived.Test.YtoglloafpnopaaaGreatTabP
import Derived.Test.YtoglloafpnopaaaGreatTabR
import Derived.Deep.DeepCutAuto
set_option linter.unusedSimpArgs false
set_option linter.unusedVariables false
namespace Go.Proofs.YtoglloafpnopaaaGreat
set_option maxRecDepth 16000
open Go.RowKit Spoor
theorem openT_some {text : List UInt8} {gs : List (List Ce)} (h : openT text = some gs) (w : World) (hl : text.length ≤ 1000000) : Calls Tryz.prog 18 #[.string ⟨text.toArray⟩] w fun e w' => Below w.heap.size w w' ∧ ∃ t, e = .returned (.tuple #[.pointer (some ⟨t, 0, none⟩), .int .i64 0]) ∧ TabAt t gs w' :=
 (openT_any text w hl).mono fun e w' ⟨hb, hh⟩ => by
   rcases hh with ⟨h1, -⟩ | ⟨gs', t, h1, rfl, ht⟩
   · rw [h] at h1; cases h1
   · rw [h] at h1; cases h1
     exact ⟨hb, t, rfl, ht⟩
def tri : List Ce := [⟨[97], 2, []⟩, ⟨[97], 1, []⟩, ⟨[98], 5, []⟩]
def TriAt (g : Nat) (w : World) : Prop := w.heap[g]? = some (.cells #[.string ⟨#[97]⟩, .int .i64 2, .string ⟨#[]⟩, .string ⟨#[97]⟩, .int .i64 1, .string ⟨#[]⟩, .string ⟨#[98]⟩, .int .i64 5, .string ⟨#[]⟩] 38 (0, 0))
theorem TriAt.row {g : Nat} {w : World} (h : TriAt g w) : RowAt g 0 tri w := by
 refine ⟨(Go.ltA h), fun i hi j v hv => ?_⟩
 rw [cell_of_row w g _ _ _ _ h]
 have hi' : i < 3 := hi
 have hj : j < 3 := by
  have := (List.getElem?_eq_some_iff.1 hv).1
  simpa [ceRow] using this
 rcases (by omega : i = 0 ∨ i = 1 ∨ i = 2) with rfl | rfl | rfl <;> rcases (by omega : j = 0 ∨ j = 1 ∨ j = 2) with rfl | rfl | rfl <;> simpa [tri, ceRow] using hv
theorem TriAt.later {g : Nat} {w w' : World} (h : TriAt g w) (hb : Below w.heap.size w w') : TriAt g w' := (hb.block g (Go.ltA h)).trans h
theorem TriAt.cell {g : Nat} {w : World} (h : TriAt g w) : w.cell? ⟨g, 0, none⟩ = some (.string ⟨#[97]⟩) ∧ w.cell? ⟨g, 1, none⟩ = some (.int .i64 2) ∧ w.cell? ⟨g, 2, none⟩ = some (.string ⟨#[]⟩) := by
 refine ⟨?_, ?_, ?_⟩ <;> (rw [cell_of_row w g _ _ _ _ h]; rfl)
theorem TriAt.sl {g : Nat} {w : World} (h : TriAt g w) : SlAt (.slice (some ⟨g, 0, none⟩) 3 3) tri w := h.row.sl rfl (by omega) (by unfold maxLen; omega)
theorem MonoR.sl (l : List Ce) : MonoR (fun v w => SlAt v l w) := fun _ _ _ hb h => h.later hb
def refFinT (text : List UInt8) : Option (List Ce) → Option (List Ce)
 | none => none
 | some L => finL text L
structure RefOk (text : List UInt8) (sz bl a0 : Nat) (o0 : Bool) (i a fr : Nat) (L : List Ce) : Prop where
 hat : a ≤ text.length
 hfr : fr ≤ sz
 hl : L.length ≤ fr
 fit : ∀ c ∈ L, FitsC c
 good : o0 = true → refL text sz bl a0 0 = (refL text sz (bl - i) a fr).map fun r => L ++ r
 bad : o0 = false → bl = 0 ∧ L = []
theorem may_fits {c : Ce} (h : c.may = true) (hq : c.q ≤ 9223372036854775807) : FitsC c := by
 have := may_of h
 exact ⟨by omega, by omega, hq⟩
theorem RefOk.start {text : List UInt8} {sz bl a0 : Nat} {o0 : Bool} (h : a0 ≤ text.length) (hb : o0 = false → bl = 0) : RefOk text sz bl a0 o0 0 a0 0 [] := by
 refine ⟨h, Nat.zero_le _, by simp, by simp, fun _ => ?_, fun h => ⟨hb h, rfl⟩⟩
 rw [Nat.sub_zero]
 show _ = (refL text sz bl a0 0).map _
 cases refL text sz bl a0 0 <;> rfl
section
variable {text : List UInt8} {sz bl a0 : Nat} {o0 : Bool} {i a fr : Nat} {L : List Ce}
theorem RefOk.step (h : RefOk text sz bl a0 o0 i a fr L) (ho : o0 = true) (hi : i < bl) : refL text sz bl a0 0 = (refL text sz (bl - (i + 1) + 1) a fr).map fun r => L ++ r := by
 rw [h.good ho, show bl - i = bl - (i + 1) + 1 by omega]
theorem RefOk.next (h : RefOk text sz bl a0 o0 i a fr L) (ho : o0 = true) (hi : i < bl) (h1 : gO (getText (text.drop a)) = true) (h2 : gO (get (text.drop (tA a (getText (text.drop a))))) = true) {m : Nat} (hm : gN (get (text.drop (tA a (getText (text.drop a))))) = m) (h3 : m ≤ sz - fr) {c : List Ce} (hc : decB ((text.drop fr).take m) = some c) :
 RefOk text sz bl a0 o0 (i + 1) (gA (tA a (getText (text.drop a))) (get (text.drop (tA a (getText (text.drop a)))))) (min (fr + m + 4) sz) (L ++ c) := by
 have hlen := decB_len hc
 have htl : ((text.drop fr).take m).length ≤ m := by rw [List.length_take]; omega
 refine ⟨?_, by omega, ?_, ?_, fun _ => ?_, fun hb => by rw [ho] at hb; cases hb⟩
 · have q1 : tA a (getText (text.drop a)) ≤ text.length := tA_le h.hat
   exact gA_le (l := text) (a := tA a (getText (text.drop a)))
 · rw [List.length_append]
   have := h.hl
   have := h.hfr
   omega
 · intro x hx
   rcases List.mem_append.1 hx with hx | hx
   · exact h.fit x hx
   · exact may_fits (sorted_may (decB_some hc).1 x hx) ((decB_fits hc).2 x hx)
 · rw [h.step ho hi]
   conv => lhs; unfold refL
   cases e : getText (text.drop a) with
   | none => rw [e] at h1; cases h1
   | some r =>
     obtain ⟨t, k1⟩ := r
     rw [e] at h2 hm
     dsimp only [tA] at h2 hm
     dsimp only [tA]
     cases e2 : get (text.drop (a + k1)) with
     | none => rw [e2] at h2; cases h2
     | some r =>
       obtain ⟨m', k2⟩ := r
       rw [e2] at hm
       obtain rfl : m' = m := hm
       dsimp only [gA]
       rw [if_neg (by omega), hc]
       dsimp only
       cases refL text sz (bl - (i + 1)) (a + k1 + k2) (min (fr + m' + 4) sz) with
       | none => rfl
       | some r => simp
theorem RefOk.fin (h : RefOk text sz bl a0 o0 i a fr L) (hc : i = bl ∨ o0 = false) : (if o0 = true then refFinT text (refL text sz bl a0 0) else finL text []) = finL text L := by
 cases o0 with
 | false =>
   obtain ⟨-, rfl⟩ := h.bad rfl
   rfl
 | true =>
   obtain rfl : i = bl := by simpa using hc
   rw [if_pos rfl, h.good rfl, Nat.sub_self]
   simp [refL, refFinT]
end
theorem okG_ne : ∀ {gs : List (List Ce)}, okG gs → ∀ g ∈ gs, g ≠ []
 | [], _, g, h => by simp at h
 | a :: gs, h, g, hg => by
   obtain ⟨h1, -, -, h2⟩ := h
   rcases List.mem_cons.1 hg with rfl | hg
   · exact h1
   · exact okG_ne h2 g hg
theorem fours_facts {l : List Ce} (hs : sortedB l = true) (hl : l.length ≤ 4096) : Rise (fours l).flatten ∧ (∀ g ∈ fours l, g ≠ []) ∧ (fours l).length ≤ 100000 ∧ (fours l).flatten.length ≤ 4096 := by
 refine ⟨?_, okG_ne (fours_ok l), ?_, ?_⟩
 · rw [fours_flat]; exact (sorted_rise.1 hs).1
 · have := fours_length l; omega
 · rw [fours_flat]; exact hl
section
open Go.ChangeShapes Go.WideShapes Go.Opens
variable {H : Type} {enc : TypeId × Value → H} {w : World} {base : Nat} {spare : Nat → Bool} {held : Bool}
end
section
open Go.ChangeShapes Go.WideShapes Go.Opens
variable {H : Type} {enc : TypeId × Value → H} {w : World} {base : Nat} {spare : Nat → Bool} {held : Bool}
theorem open_str3 {r : Reach} {b0 : Nat} {v : Value} {d : DataW H} {p : List MemPlace} (hv : Value.okWide Tryz.prog w r b0 57 v) (h : DataW.Trod enc Tryz.prog w base spare held 57 v d p) :
 ∃ s t u : List UInt8, v = .agg #[.string ⟨s.toArray⟩, .string ⟨t.toArray⟩, .string ⟨u.toArray⟩] ∧ d = .agg [.lit (.string s), .lit (.string t), .lit (.string u)] ∧ p = [] := by
 obtain ⟨cs, ys, m, rfl, rfl, rfl, hc, hy, hf⟩ := open_array1 Tryz.underlying57 (by kernel_rfl) (by kernel_rfl) hv h
 match cs, hc, ys, hy with
 | [c0, c1, c2], _, [y0, y1, y2], _ =>
   have t0 := hf 0 _ _ rfl rfl
   have t1 := hf 1 _ _ rfl rfl
   have t2 := hf 2 _ _ rfl rfl
   obtain ⟨n0, e0, rfl, w0⟩ := DataW.trod_string Tryz.underlying9 t0
   obtain ⟨n1, e1, rfl, w1⟩ := DataW.trod_string Tryz.underlying9 t1
   obtain ⟨n2, e2, rfl, w2⟩ := DataW.trod_string Tryz.underlying9 t2
   simp only [List.cons.injEq, and_true] at e0 e1 e2
   subst e0 e1 e2
   refine ⟨n0.data.toList, n1.data.toList, n2.data.toList, ?_, rfl, rfl⟩
   have s0 : (⟨n0.data.toList.toArray⟩ : ByteArray) = n0 := by cases n0; simp
   have s1 : (⟨n1.data.toList.toArray⟩ : ByteArray) = n1 := by cases n1; simp
   have s2 : (⟨n2.data.toList.toArray⟩ : ByteArray) = n2 := by cases n2; simp
   rw [s0, s1, s2]
end
end Go.Proofs.YtoglloafpnopaaaGreat
