/- Get of a memory; New; what is left as it was. -/
import Derived.Test.YtpcapifjbhaeeaaMemD
namespace Go.Proofs.Ytpcapifjbhaeeaa
set_option maxRecDepth 16000
open Go.RowKit Spoor
set_option linter.unusedVariables false

/-- all that was there, but for some blocks, is as it was -/
structure Fr (S : List Nat) (w w' : World) : Prop where
  os : w'.os = w.os
  tape : w'.tape = w.tape
  output : w'.output = w.output
  size : w.heap.size ≤ w'.heap.size
  block : ∀ k, k < w.heap.size → k ∉ S → w'.heap[k]? = w.heap[k]?
theorem Fr.of_below {S : List Nat} {w w' : World} (h : Below w.heap.size w w') : Fr S w w' := ⟨h.os, h.tape, h.output, h.size, fun k hk _ => h.block k hk⟩
theorem Fr.refl (S : List Nat) (w : World) : Fr S w w := Fr.of_below (Below.refl _ _)
theorem Fr.below {S : List Nat} {B : Nat} {w w' : World} (h : Fr S w w') (hB : B ≤ w.heap.size) (hS : ∀ x ∈ S, B ≤ x) : Below B w w' :=
  ⟨h.os, h.tape, h.output, h.size, fun k hk => h.block k (by omega) (fun hm => by have := hS k hm; omega)⟩
theorem Fr.trans {S T : List Nat} {a b c : World} (h : Fr S a b) (k : Fr T b c) (hT : ∀ x ∈ T, x ∈ S ∨ a.heap.size ≤ x) : Fr S a c :=
  ⟨k.os.trans h.os, k.tape.trans h.tape, k.output.trans h.output, Nat.le_trans h.size k.size, fun i hi hm => (k.block i (Nat.lt_of_lt_of_le hi h.size) (fun hx => by rcases hT i hx with h1 | h1; exact hm h1; omega)).trans (h.block i hi hm)⟩
theorem Fr.mono {S T : List Nat} {a b : World} (h : Fr S a b) (hT : ∀ x ∈ S, x ∈ T) : Fr T a b :=
  ⟨h.os, h.tape, h.output, h.size, fun i hi hm => h.block i hi (fun hx => hm (hT i hx))⟩
theorem Fr.grown {S : List Nat} {a b c : World} {row : Option Nat} (h : Fr S a b) (g : b.grownBy c row) (hr : ∀ k, row = some k → k ∈ S ∨ a.heap.size ≤ k) : Fr S a c :=
  ⟨g.os.trans h.os, g.tape.trans h.tape, g.output.trans h.output, Nat.le_trans h.size g.size, fun i hi hm => (g.block i (Nat.lt_of_lt_of_le hi h.size) (fun e => by rcases hr i e.symm with h1 | h1; exact hm h1; omega)).trans (h.block i hi hm)⟩
theorem Fr.set {S : List Nat} {a b : World} (h : Fr S a b) (p : Addr) (hp : p.block ∈ S ∨ a.heap.size ≤ p.block) (u : Value) : Fr S a (b.setCell p u) :=
  ⟨h.os, h.tape, h.output, by have := h.size; simpa [World.setCell] using this, fun i hi hm => (Below.heap_setCell b p u i (fun e => by rcases hp with h1 | h1; exact hm (e ▸ h1); omega)).trans (h.block i hi hm)⟩
theorem Fr.alloc {S : List Nat} {a b : World} (h : Fr S a b) (o : Obj) : Fr S a (b.alloc o) :=
  ⟨h.os, h.tape, h.output, by have := h.size; simp; omega, fun i hi hm => (Below.heap_alloc b o i (Nat.lt_of_lt_of_le hi h.size)).trans (h.block i hi hm)⟩
theorem Fr.cell {S : List Nat} {w w' : World} (h : Fr S w w') {p : Addr} (hp : p.block < w.heap.size) (hm : p.block ∉ S) : w'.cell? p = w.cell? p := World.cell?_of_block (w := w) (h.block p.block hp hm)
theorem PageAt.same {v : Value} {l : List Ce} {b : Nat} {w w' : World} (h : PageAt v l b w) (hk : w'.heap[b]? = w.heap[b]?) : PageAt v l b w' := by
  obtain ⟨cap, cur, h1, h2, h3, h4, h5⟩ := h
  exact ⟨cap, cur, h1, h2, h3, hk.trans h4, h5⟩
theorem getD_in {bs : List Nat} {i : Nat} (h : i < bs.length) : bs.getD i 0 ∈ bs := by simp [List.getD, h]
theorem PagesAt.same {v : Value} {gs : List (List Ce)} {fs : List Nat} {w w' : World} (h : PagesAt v gs fs w) (hk : ∀ b ∈ fs, w'.heap[b]? = w.heap[b]?) : PagesAt v gs fs w' := by
  rcases h with h | ⟨g, cap, cur, bs, h1, h0, h2, h3, h4, h5, rfl, h7, h8, h9⟩
  · exact .inl h
  · refine .inr ⟨g, cap, cur, bs, h1, h0, h2, h3, (hk g (by simp)).trans h4, h5, rfl, h7, h8, fun i hi => ?_⟩
    obtain ⟨u, h10, h11⟩ := h9 i hi
    exact ⟨u, h10, h11.same (hk _ (List.mem_cons_of_mem _ (getD_in (by omega))))⟩
theorem Mem.same {p : Nat} {L : List Ce} {fs : List Nat} {w w' : World} (h : Mem p L fs w) (hk : ∀ b ∈ fs, w'.heap[b]? = w.heap[b]?) : Mem p L fs w' := by
  obtain ⟨gs, ⟨v, fs', rfl, hp, hP⟩, ok, hL⟩ := h
  exact ⟨gs, ⟨v, fs', rfl, (hk p (by simp)).trans hp, hP.same fun b hb => hk b (by simp [hb])⟩, ok, hL⟩
theorem PageAt.lt {v : Value} {l : List Ce} {b : Nat} {w : World} (h : PageAt v l b w) : b < w.heap.size := h.row.1
theorem Mem.lt {p : Nat} {L : List Ce} {fs : List Nat} {w : World} (h : Mem p L fs w) : ∀ b ∈ fs, b < w.heap.size := by
  obtain ⟨gs, ⟨v, fs', rfl, hp, hP⟩, ok, hL⟩ := h
  intro b hb
  rcases List.mem_cons.1 hb with rfl | hb
  · exact (Array.getElem?_eq_some_iff.1 hp).1
  · rcases hP with ⟨_, _, rfl⟩ | ⟨g, cap, cur, bs, h1, h0, h2, h3, h4, h5, rfl, h7, h8, h9⟩
    · cases hb
    · rcases List.mem_cons.1 hb with rfl | hb
      · exact (Array.getElem?_eq_some_iff.1 h4).1
      · obtain ⟨i, hi, rfl⟩ := List.getElem_of_mem hb
        obtain ⟨u, _, h11⟩ := h9 i (by omega)
        have := h11.lt
        simpa [List.getD, hi] using this
theorem Mem.fr {p : Nat} {L : List Ce} {fs S : List Nat} {w w' : World} (h : Mem p L fs w) (f : Fr S w w') (hd : ∀ b ∈ fs, b ∉ S) : Mem p L fs w' := h.same fun b hb => f.block b (h.lt b hb) (hd b hb)
theorem Mem.later {p : Nat} {L : List Ce} {fs : List Nat} {w w' : World} (h : Mem p L fs w) (hb : Below w.heap.size w w') : Mem p L fs w' := h.fr (S := []) (Fr.of_below hb) (by simp)
theorem Mem.self {p : Nat} {L : List Ce} {fs : List Nat} {w : World} (h : Mem p L fs w) : p ∈ fs := by
  obtain ⟨gs, ⟨v, fs', rfl, hp, hP⟩, ok, hL⟩ := h
  simp
theorem newM_any (w : World) : Calls Try.prog 9 #[] w fun e w' => e = .returned (.pointer (some ⟨w.heap.size, 0, none⟩)) ∧ Mem w.heap.size [] [w.heap.size] w' ∧ Below w.heap.size w w' := by
  have h1 := heap_alloc_new w (.cells #[.bool true, .slice none 0 0] 58)
  have b1 := (Below.refl w.heap.size w).alloc (Nat.le_refl _) (.cells #[.bool true, .slice none 0 0] 58)
  go_enter Try.func9, Try.ntmps9
  go_wp2_with fail
  go_ret
  exact ⟨rfl, ⟨[], ⟨_, [], rfl, h1, .inl ⟨rfl, rfl, rfl⟩⟩, ⟨by simp, by simp [Rise], by simp⟩, rfl⟩, b1⟩
def ceV : Option Ce → Value
  | some c => .tuple #[ceVal c, .bool true]
  | none => .tuple #[ceVal Ce.zero, .bool false]
theorem bytes_snoc (l : List UInt8) : (⟨l.toArray⟩ : ByteArray) ++ ⟨#[0]⟩ = ⟨(l ++ [0]).toArray⟩ := by
  have := ByteArray.mk_append_mk l [0]
  simpa using this
theorem getM_any (p : Nat) (L : List Ce) (fs : List Nat) (key : List UInt8) (w : World) (M : Mem p L fs w) (hbig : L.length ≤ 100000) (hk : key.length ≤ 140737488351232) :
    Calls Try.prog 13 #[.pointer (some ⟨p, 0, none⟩), .string ⟨key.toArray⟩] w fun e w' => e = .returned (ceV (findC L key)) ∧ Below w.heap.size w w' := by
  have cc := fun W h => rangeM_any p L fs key (key ++ [0]) W h hbig
  have hone := rangeC_one L key
  generalize rangeC L key (key ++ [0]) = R at *
  rw [← bytes_snoc] at cc
  have b1 := (Below.refl w.heap.size w).alloc (Nat.le_refl _) (boxC Ce.zero)
  have q1 := CeAt.boxed Ce.zero w
  have M1 := Lib.hid (M.later b1)
  unfold boxC at b1 q1 M1
  simp only [Ce.zero] at b1 q1 M1
  have q1 : CeAt w.heap.size Ce.zero (w.alloc (.cells #[.string ⟨#[]⟩, .int .i64 0, .string ⟨#[]⟩] 33)) := q1
  have CC := Lib.hid cc
  have hk2 : (⟨key.toArray⟩ : ByteArray).size ≤ 140737488351232 := by show key.toArray.size ≤ _; simpa using hk
  cases hf : findC L key with
  | none =>
    rw [hf] at hone
    have hR : R = [] := List.head?_eq_none_iff.1 hone
    subst hR
    unfold ceV ceVal
    clear cc hone hf M
    go_enter Try.func13, Try.ntmps13
    go_wp2_with fail
    refine (CC.out _ M1.out).mono ?_
    rintro e w1 ⟨hb, v, rfl, own⟩
    have q2 := q1.later hb q1.lt
    have B := btP b1 hb
    obtain ⟨vA, vc, rfl⟩ := own_slice own
    have lt2 := q2.lt
    have HB := Lib.hid B
    obtain ⟨y0, y1, y2⟩ := q2.cell
    obtain ⟨z0, z1, z2⟩ := q2.frees
    clear own CC M1 q1 b1 hb B
    go_wp2_with fail
    obtain ⟨q3, b3⟩ := q2.all HB.out (Nat.le_refl _) Ce.zero
    unfold Ce.zero at q3 b3
    generalize ((World.setCell _ _ _).setCell _ _).setCell _ _ = w9 at *
    clear y0 y1 y2 z0 z1 z2
    obtain ⟨y0, y1, y2⟩ := q3.cell
    refine bodyPost_ret (v := .tuple #[.agg #[.string ⟨#[]⟩, .int .i64 0, .string ⟨#[]⟩], .bool false]) (by simp [results, Try.results13, go_sem, *]) rfl ⟨?_, b3⟩
    rfl
  | some c =>
    rw [hf] at hone
    have hR0 : 0 < R.length := by cases R with | nil => simp at hone | cons x R => simp
    have hR1 : R.getD 0 Ce.zero = c := by cases R with | nil => simp at hone | cons x R => simpa using hone
    have HR0 := Lib.hid hR0
    have HR1 := Lib.hid hR1
    unfold ceV ceVal
    clear cc hone hf M hR0 hR1
    go_enter Try.func13, Try.ntmps13
    go_wp2_with fail
    refine (CC.out _ M1.out).mono ?_
    rintro e w1 ⟨hb, v, rfl, own⟩
    have q2 := q1.later hb q1.lt
    have B := btP b1 hb
    obtain ⟨A, cap, rfl, h1, h2, h3⟩ := slAt_own own
    unfold maxLen at h2
    obtain ⟨b, o, rfl, hrow⟩ := h3 HR0.out
    have hcs := hrow.cells HR0.out
    rw [HR1.out] at hcs
    obtain ⟨x0, x1, x2⟩ := hcs
    simp only [Nat.zero_mul, Nat.add_zero] at x0 x1 x2
    have hr0 := HR0.out
    obtain ⟨n, hn⟩ : ∃ n, R.length = n := ⟨_, rfl⟩
    rw [hn] at hr0 h1 ⊢
    have lt2 := q2.lt
    have HB := Lib.hid B
    obtain ⟨y0, y1, y2⟩ := q2.cell
    obtain ⟨z0, z1, z2⟩ := q2.frees
    clear own CC M1 q1 b1 hb B hn h3 hrow
    go_wp2_with fail
    obtain ⟨q3, b3⟩ := q2.all HB.out (Nat.le_refl _) c
    generalize ((World.setCell _ _ _).setCell _ _).setCell _ _ = w9 at *
    clear y0 y1 y2 z0 z1 z2
    obtain ⟨y0, y1, y2⟩ := q3.cell
    refine bodyPost_ret (v := .tuple #[.agg #[.string ⟨c.k.toArray⟩, .int .i64 c.q, .string ⟨c.v.toArray⟩], .bool true]) (by simp [results, Try.results13, go_sem, *]) rfl ⟨?_, b3⟩
    rfl
end Go.Proofs.Ytpcapifjbhaeeaa
