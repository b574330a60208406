/- A memory, as it lies: pages, each in a block of its own; what is asked of it. -/
import Derived.Test.YtpcapifjbhaeeaaMemB
import Derived.Laws.AppendOwnNone
import Derived.OwnWalk
import Derived.Deep.AppendLies
namespace Spoor
open Go
/-- where the first cell of a key, or behind it, stands -/
def keyPos (l : List Ce) (key : List UInt8) : Nat := (l.takeWhile fun c => Op.bytesLess c.k key).length
theorem keyPos_le (l : List Ce) (key : List UInt8) : keyPos l key ≤ l.length := (List.takeWhile_sublist _).length_le
theorem keyPos_facts : ∀ {l : List Ce} (key : List UInt8), Rise l → (∀ i, i < keyPos l key → Op.bytesLess (l.getD i Ce.zero).k key = true) ∧ ∀ i, keyPos l key ≤ i → i < l.length → Op.bytesLess (l.getD i Ce.zero).k key = false
  | [], key, _ => ⟨fun i hi => by simp [keyPos] at hi, fun i _ hi => by simp at hi⟩
  | c :: l, key, h => by
    have h2 := List.pairwise_cons.1 h
    have ih := keyPos_facts key h2.2
    cases e : Op.bytesLess c.k key with
    | true =>
      have hk : keyPos (c :: l) key = keyPos l key + 1 := by unfold keyPos; rw [List.takeWhile_cons, e]; rfl
      rw [hk]
      refine ⟨fun i hi => ?_, fun i hi hl => ?_⟩
      · cases i with
        | zero => exact e
        | succ i => exact ih.1 i (by omega)
      · cases i with
        | zero => omega
        | succ i => exact ih.2 i (by omega) (by simpa using hl)
    | false =>
      have hk : keyPos (c :: l) key = 0 := by unfold keyPos; rw [List.takeWhile_cons, e]; rfl
      rw [hk]
      refine ⟨fun i hi => by omega, fun i hi hl => ?_⟩
      cases i with
      | zero => exact e
      | succ i =>
        have hm : (c :: l).getD (i + 1) Ce.zero ∈ l := by
          have : i < l.length := by simpa using hl
          simp [List.getD, this]
        cases f : Op.bytesLess ((c :: l).getD (i + 1) Ce.zero).k key with
        | false => rfl
        | true => rw [key_mono (h2.1 _ hm) f] at e; cases e
def endPos (l : List Ce) (from' to : List UInt8) : Nat := if to = [] then l.length else max (keyPos l from') (keyPos l to)
theorem endPos_facts {l : List Ce} (from' to : List UInt8) (h : Rise l) : keyPos l from' ≤ endPos l from' to ∧ endPos l from' to ≤ l.length ∧ rangeC l from' to = (l.drop (keyPos l from')).take (endPos l from' to - keyPos l from') := by
  have h1 := keyPos_le l from'
  have h2 := keyPos_le l to
  have f1 := keyPos_facts from' h
  have f2 := keyPos_facts to h
  have e : keyPos l from' ≤ endPos l from' to ∧ endPos l from' to ≤ l.length := by
    unfold endPos
    split <;> omega
  refine ⟨e.1, e.2, ?_⟩
  refine rangeC_cut f1.1 f1.2 ?_ e.1 e.2
  unfold endPos
  by_cases ht : to = []
  · left; exact ⟨ht, if_pos ht⟩
  · right
    rw [if_neg ht]
    refine ⟨ht, fun i h3 h4 h5 => f2.1 i (by omega), fun i h3 h4 => f2.2 i (by omega) h4⟩
end Spoor
namespace Go.Proofs.Ytpcapifjbhaeeaa
set_option maxRecDepth 16000
open Go.RowKit Spoor
set_option linter.unusedVariables false

theorem at_any (s : Value) (l : List Ce) (key : List UInt8) (w : World) (hs : SlAt s l w) (hr : Rise l) (hbig : l.length ≤ 1000000) :
    Calls Try.prog 51 #[s, .string ⟨key.toArray⟩] w fun e w' => e = .returned (.int .i64 (keyPos l key)) ∧ Below w.heap.size w w' := by
  have f := keyPos_facts key hr
  have cc := searchK_any s l key (keyPos l key) w hs hbig (keyPos_le l key) f.1 f.2
  obtain ⟨A, cap, rfl, -, -, -⟩ := id hs
  generalize keyPos l key = t at *
  have CC := Lib.hid cc
  clear cc f hs hr
  generalize l.length = n at *
  go_enter Try.func51, Try.ntmps51
  go_wp2_with fail
  refine CC.out.mono ?_
  rintro e w1 ⟨rfl, hb⟩
  go_wp2_with fail
  go_ret
  exact ⟨rfl, hb⟩
theorem stretch_any (s : Value) (l : List Ce) (from' to : List UInt8) (w : World) (hs : SlAt s l w) (hr : Rise l) (hbig : l.length ≤ 1000000) :
    Calls Try.prog 36 #[s, .string ⟨from'.toArray⟩, .string ⟨to.toArray⟩] w fun e w' => e = .returned (.tuple #[.int .i64 (keyPos l from'), .int .i64 (endPos l from' to)]) ∧ Below w.heap.size w w' := by
  have c1 := at_any s l from' w hs hr hbig
  have c2 := fun W (h : Below w.heap.size w W) => at_any s l to W (hs.later h) hr hbig
  have b1 := keyPos_le l from'
  have b2 := keyPos_le l to
  obtain ⟨E, hE⟩ : ∃ E, endPos l from' to = E := ⟨_, rfl⟩
  have hE2 := hE
  unfold endPos at hE2
  rw [hE]
  obtain ⟨A, cap, rfl, -, -, -⟩ := id hs
  generalize keyPos l from' = p at *
  generalize keyPos l to = q at *
  generalize hn : l.length = n at *
  have C1 := Lib.hid c1
  have C2 := Lib.hid c2
  have HE := Lib.hid hE2
  clear c1 c2 hE hE2 hs hr
  by_cases ht : to = []
  · subst ht
    obtain rfl : E = n := by rw [← HE.out, if_pos rfl]
    clear HE
    go_enter Try.func36, Try.ntmps36
    go_wp2_with fail
    refine C1.out.mono ?_
    rintro e w1 ⟨rfl, hb⟩
    go_wp2_with fail
    go_ret2
    exact ⟨rfl, hb⟩
  · have e1 : (to == ([] : List UInt8)) = false := by simpa using ht
    have hm : max p q = E := by rw [← HE.out, if_neg ht]
    have HM := Lib.hid hm
    clear HE hm
    go_enter Try.func36, Try.ntmps36
    go_wp2_with fail
    refine C1.out.mono ?_
    rintro e w1 ⟨rfl, hb⟩
    go_wp2_with fail
    refine (C2.out _ hb).mono ?_
    rintro e w2 ⟨rfl, hb2⟩
    go_wp2_with fail
    go_ret2
    exact ⟨ret2 rfl (by have := HM.out; simp; omega), btP hb hb2⟩
/-- a page, in a block of its own -/
def PageAt (v : Value) (l : List Ce) (b : Nat) (w : World) : Prop := ∃ cap cur, v = .slice (some ⟨b, 0, none⟩) l.length cap ∧ l.length ≤ cap ∧ cap ≤ maxLen ∧ w.heap[b]? = some (.cells cur 33 (0, 0)) ∧ cap * 3 ≤ cur.size ∧ cur.toList.take (l.length * 3) = rowOf l
def PagesAt (v : Value) (gs : List (List Ce)) (fs : List Nat) (w : World) : Prop :=
  (v = .slice none 0 0 ∧ gs = [] ∧ fs = []) ∨
  ∃ g cap cur bs, v = .slice (some ⟨g, 0, none⟩) gs.length cap ∧ 0 < gs.length ∧ gs.length ≤ cap ∧ cap ≤ maxLen ∧ w.heap[g]? = some (.cells cur 60 (0, 0)) ∧ cur.size = cap ∧ fs = g :: bs ∧ bs.length = gs.length ∧ bs.Nodup ∧ ∀ i, i < gs.length → ∃ v, cur[i]? = some v ∧ PageAt v (gs.getD i []) (bs.getD i 0) w
def MemAt (p : Nat) (gs : List (List Ce)) (fs : List Nat) (w : World) : Prop := ∃ v fs', fs = p :: fs' ∧ w.heap[p]? = some (.cells #[.bool true, v] 58 (0, 0)) ∧ PagesAt v gs fs' w
/-- a memory of cells, and the blocks in which it lies -/
def Mem (p : Nat) (L : List Ce) (fs : List Nat) (w : World) : Prop := ∃ gs, MemAt p gs fs w ∧ PagesOk gs ∧ gs.flatten = L
theorem PageAt.row {v : Value} {l : List Ce} {b : Nat} {w : World} (h : PageAt v l b w) : b < w.heap.size ∧ RowAt b 0 l w := by
  obtain ⟨cap, cur, rfl, h1, h2, h3, h4, h5⟩ := h
  have hlt := (Array.getElem?_eq_some_iff.1 h3).1
  refine ⟨hlt, hlt, fun i hi j u hj => ?_⟩
  have hj3 : j < 3 := (List.getElem?_eq_some_iff.1 hj).1
  have hr := rowOf_at l i j hi hj3
  rw [hj, ← h5, List.getElem?_take, if_pos (by omega)] at hr
  rw [World.cell?]
  simp only [h3]
  have : (0 + i * 3 + j) = i * 3 + j := by omega
  simp only [this]
  rw [← Array.getElem?_toList, hr]
  rfl
theorem PageAt.sl {v : Value} {l : List Ce} {b : Nat} {w : World} (h : PageAt v l b w) : SlAt v l w := by
  have hr := h.row
  obtain ⟨cap, cur, rfl, h1, h2, -⟩ := h
  exact ⟨_, _, rfl, h1, h2, fun _ => ⟨b, 0, rfl, hr.2⟩⟩
theorem PagesAt.pgs {v : Value} {gs : List (List Ce)} {fs : List Nat} {w : World} (h : PagesAt v gs fs w) : PgsAt v gs w := by
  rcases h with ⟨rfl, rfl, rfl⟩ | ⟨g, cap, cur, bs, rfl, h0, h1, h2, h3, h4, rfl, h5, h6, h7⟩
  · exact ⟨none, 0, rfl, by simp, by unfold maxLen; omega, fun h => by simp at h⟩
  · refine ⟨_, cap, rfl, h1, h2, fun _ => ⟨g, rfl, (Array.getElem?_eq_some_iff.1 h3).1, fun i hi => ?_⟩⟩
    obtain ⟨v, h8, h9⟩ := h7 i hi
    refine ⟨v, ?_, h9.sl⟩
    rw [World.cell?]
    simp only [h3]
    exact h8
theorem Mem.rise {p : Nat} {L : List Ce} {fs : List Nat} {w : World} (h : Mem p L fs w) : Rise L ∧ ∀ c ∈ L, c.may = true := by
  obtain ⟨gs, _, h2, rfl⟩ := h
  exact ⟨h2.rise, h2.may⟩
theorem flat_many : ∀ {gs : List (List Ce)}, (∀ g ∈ gs, 0 < g.length ∧ g.length ≤ 16) → gs.length ≤ gs.flatten.length
  | [], _ => by simp
  | g :: gs, h => by
    have := flat_many (gs := gs) (fun x hx => h x (by simp [hx]))
    have := (h g (by simp)).1
    rw [List.flatten_cons, List.length_append, List.length_cons]
    omega
end Go.Proofs.Ytpcapifjbhaeeaa
