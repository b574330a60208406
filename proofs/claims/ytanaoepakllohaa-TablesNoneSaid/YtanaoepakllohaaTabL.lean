/- Get of a table. -/
import Derived.Test.YtanaoepakllohaaTabK
namespace Go.Proofs.Ytanaoepakllohaa
set_option maxRecDepth 16000
open Go.RowKit Spoor
set_option linter.unusedVariables false

set_option maxHeartbeats 4000000 in
theorem getR_any (pv : Value) (R : List Ce) (key : List UInt8) (w : World) (hk : key.length ≤ 140737488351232)
    (cc : ∀ W, Below w.heap.size w W → Calls Try.prog 22 #[pv, .string ⟨key.toArray⟩, .string (⟨key.toArray⟩ ++ ⟨#[0]⟩)] W fun e w' => Below W.heap.size W w' ∧ ∃ v, e = .returned v ∧ w'.ownsRow W.heap.size 36 3 v R.length (rowOf R)) :
    Calls Try.prog 18 #[pv, .string ⟨key.toArray⟩] w fun e w' => e = .returned (ceV R.head?) ∧ Below w.heap.size w w' := by
  have b1 := (Below.refl w.heap.size w).alloc (Nat.le_refl _) (boxC Ce.zero)
  have q1 := CeAt.boxed Ce.zero w
  unfold boxC at b1 q1
  simp only [Ce.zero] at b1 q1
  have q1 : CeAt w.heap.size Ce.zero (w.alloc (.cells #[.string ⟨#[]⟩, .int .i64 0, .string ⟨#[]⟩] 36)) := q1
  have CC := Lib.hid (cc _ b1)
  have hk2 : (⟨key.toArray⟩ : ByteArray).size ≤ 140737488351232 := by show key.toArray.size ≤ _; simpa using hk
  cases hf : R.head? with
  | none =>
    have hR : R = [] := List.head?_eq_none_iff.1 hf
    subst hR
    unfold ceV ceVal
    clear cc hf
    go_enter Try.func18, Try.ntmps18
    go_wp2_with fail
    refine CC.out.mono ?_
    rintro e w1 ⟨hb, v, rfl, own⟩
    have q2 := q1.later hb q1.lt
    have B := btP b1 hb
    obtain ⟨vA, vc, rfl⟩ := own_slice own
    have lt2 := q2.lt
    have HB := Lib.hid B
    obtain ⟨y0, y1, y2⟩ := q2.cell
    obtain ⟨z0, z1, z2⟩ := q2.frees
    clear own CC q1 b1 hb B
    go_wp2_with fail
    obtain ⟨q3, b3⟩ := q2.all HB.out (Nat.le_refl _) Ce.zero
    unfold Ce.zero at q3 b3
    generalize ((World.setCell _ _ _).setCell _ _).setCell _ _ = w9 at *
    clear y0 y1 y2 z0 z1 z2
    obtain ⟨y0, y1, y2⟩ := q3.cell
    refine bodyPost_ret (v := .tuple #[.agg #[.string ⟨#[]⟩, .int .i64 0, .string ⟨#[]⟩], .bool false]) (by simp [results, Try.results18, go_sem, *]) rfl ⟨?_, b3⟩
    rfl
  | some c =>
    have hR0 : 0 < R.length := by cases R with | nil => simp at hf | cons x R => simp
    have hR1 : R.getD 0 Ce.zero = c := by cases R with | nil => simp at hf | cons x R => simpa using hf
    have HR0 := Lib.hid hR0
    have HR1 := Lib.hid hR1
    unfold ceV ceVal
    clear cc hf hR0 hR1
    go_enter Try.func18, Try.ntmps18
    go_wp2_with fail
    refine CC.out.mono ?_
    rintro e w1 ⟨hb, v, rfl, own⟩
    have q2 := q1.later hb q1.lt
    have B := btP b1 hb
    obtain ⟨A, cap, rfl, h1, h2, h3⟩ := slAt_own own
    unfold maxLen at h2
    obtain ⟨b, o, rfl, hrow⟩ := h3 HR0.out
    have hcs := hrow.cells HR0.out
    rw [HR1.out] at hcs
    obtain ⟨x0, x1, x2⟩ := hcs
    simp only [Nat.zero_mul, Nat.add_zero] at x0 x1 x2
    have hr0 := HR0.out
    obtain ⟨n, hn⟩ : ∃ n, R.length = n := ⟨_, rfl⟩
    rw [hn] at hr0 h1 ⊢
    have lt2 := q2.lt
    have HB := Lib.hid B
    obtain ⟨y0, y1, y2⟩ := q2.cell
    obtain ⟨z0, z1, z2⟩ := q2.frees
    clear own CC q1 b1 hb B hn h3 hrow
    go_wp2_with fail
    obtain ⟨q3, b3⟩ := q2.all HB.out (Nat.le_refl _) c
    generalize ((World.setCell _ _ _).setCell _ _).setCell _ _ = w9 at *
    clear y0 y1 y2 z0 z1 z2
    obtain ⟨y0, y1, y2⟩ := q3.cell
    refine bodyPost_ret (v := .tuple #[.agg #[.string ⟨c.k.toArray⟩, .int .i64 c.q, .string ⟨c.v.toArray⟩], .bool true]) (by simp [results, Try.results18, go_sem, *]) rfl ⟨?_, b3⟩
    rfl
theorem getT_any (t : Nat) (gs : List (List Ce)) (key : List UInt8) (w : World) (h : TabAt t gs w) (hr : Rise gs.flatten) (hne : ∀ g ∈ gs, g ≠ []) (hbig : gs.length ≤ 100000) (hbig2 : gs.flatten.length ≤ 100000) (hk : key.length ≤ 140737488351232) :
    Calls Try.prog 18 #[.pointer (some ⟨t, 0, none⟩), .string ⟨key.toArray⟩] w fun e w' => e = .returned (ceV (findC gs.flatten key)) ∧ Below w.heap.size w w' := by
  rw [← rangeC_one]
  refine getR_any _ _ key w hk fun W hb => ?_
  rw [bytes_snoc]
  exact rangeT_any t gs key (key ++ [0]) W (h.later hb) hr hne hbig hbig2
theorem getNil_any (key : List UInt8) (w : World) (hk : key.length ≤ 140737488351232) :
    Calls Try.prog 18 #[.pointer none, .string ⟨key.toArray⟩] w fun e w' => e = .returned (ceV none) ∧ Below w.heap.size w w' := by
  refine getR_any _ [] key w hk fun W hb => ?_
  rw [bytes_snoc]
  refine (rangeNil_any key (key ++ [0]) W).mono ?_
  rintro e w' ⟨rfl, b⟩
  exact ⟨b, _, rfl, by simpa [rowOf] using World.ownsRow_nil _ _ _ _⟩
end Go.Proofs.Ytanaoepakllohaa
