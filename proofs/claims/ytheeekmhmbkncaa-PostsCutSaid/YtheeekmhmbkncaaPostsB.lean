/- The walks on the numbers behind a letter: through three pointers. -/
import Derived.Test.YtheeekmhmbkncaaPostsA
namespace Go.Proofs.Ytheeekmhmbkncaa
open Go.RowKit Spoor

theorem turn_back {f : FuncId} {args : Array Value} {w : World} {v : Value} (h : Calls Try.prog f args w fun e w' => e = .returned v ∧ w' = w) : Calls Try.prog f args w fun e w' => e = .returned v ∧ w = w' :=
  h.mono fun _ _ h => ⟨h.1, h.2.symm⟩
def bhB (c : UInt8) (l : List UInt8) : Bool := (behind c l).isSome
def bhT (c : UInt8) (l : List UInt8) : List UInt8 := (behind c l).getD l
theorem bh_none {c : UInt8} {l : List UInt8} (h : behind c l = none) : Lib.hasPrefix l [c] = false ∧ Lib.trimPrefix l [c] = l := by
  have hp : Lib.hasPrefix l [c] = false := by
    unfold Lib.hasPrefix
    cases l with
    | nil => rfl
    | cons d r =>
      simp only [behind] at h
      split at h
      · cases h
      · rename_i e
        have : (c == d) = false := by
          rw [beq_eq_false_iff_ne]
          intro e2
          exact e e2.symm
        simp [List.isPrefixOf, this]
  exact ⟨hp, by unfold Lib.trimPrefix; rw [hp]; rfl⟩
theorem bh_some {c : UInt8} {l r : List UInt8} (h : behind c l = some r) : Lib.hasPrefix l [c] = true ∧ Lib.trimPrefix l [c] = r := by
  obtain rfl := behind_some h
  have hp : Lib.hasPrefix (c :: r) [c] = true := by simp [Lib.hasPrefix, List.isPrefixOf]
  exact ⟨hp, by unfold Lib.trimPrefix; rw [hp]; rfl⟩
theorem cutPre (l : List UInt8) (c : UInt8) (w : World) :
    Calls Try.prog 45 #[.string ⟨l.toArray⟩, .string ⟨#[c]⟩] w fun e w' => e = .returned (.tuple #[.string ⟨(bhT c l).toArray⟩, .bool (bhB c l)]) ∧ w = w' := by
  have h := turn_back (Try.strings_CutPrefix ⟨l.toArray⟩ ⟨#[c]⟩ w)
  refine h.mono ?_
  rintro e w' ⟨rfl, hw⟩
  refine ⟨?_, hw⟩
  unfold bhT bhB
  cases hb : behind c l with
  | none =>
    obtain ⟨h1, h2⟩ := bh_none hb
    show Ending.returned (.tuple #[.string ⟨(Lib.trimPrefix l [c]).toArray⟩, .bool (Lib.hasPrefix l [c])]) = _
    rw [h1, h2]; rfl
  | some r =>
    obtain ⟨h1, h2⟩ := bh_some hb
    show Ending.returned (.tuple #[.string ⟨(Lib.trimPrefix l [c]).toArray⟩, .bool (Lib.hasPrefix l [c])]) = _
    rw [h1, h2]; rfl
theorem strFrom (l : List UInt8) (i : Nat) (I : Int) (hI : I = i) (h : i ≤ l.length) (W : World) :
    (Instr.slice 9 (.string ⟨l.toArray⟩) (some (.int .i64 I)) none none).run Try.prog W = .ok (.string ⟨(l.drop i).toArray⟩) W := by
  subst hI
  go_simp
  rw [extract_bytes]
  simp [List.take_of_length_le]
theorem getN_any (s : List UInt8) (n : Nat) (W : World) (hs : s.length ≤ 140737488351232) :
    Calls Try.prog 46 #[.string ⟨s.toArray⟩, .int .i64 n] W fun e w' => e = .returned (getV n (get (s.drop n))) ∧ W = w' := by
  have h := get_any ⟨s.toArray⟩ (n : Int) W (by show s.toArray.size ≤ maxLen; simp [maxLen]; omega)
  have e : getAt s (n : Int) = getV n (get (s.drop n)) := by unfold getAt; rw [if_neg (by omega), Int.toNat_natCast]
  rw [← e]
  exact h
/-- what 'gets' tells: the numbers, and what is behind them -/
def getsR (c : UInt8) (s : List UInt8) : Option (List Nat × List UInt8) :=
  match behind c s with
  | none => none
  | some l => nums 3 l
/-- the numbers so far, and what is behind them: so many are still to come -/
def stepR (k : Nat) (ns : List Nat) (r : List UInt8) : Option (List Nat × List UInt8) := (nums k r).map fun q => (ns ++ q.1, q.2)
theorem stepR_some {k : Nat} {ns : List Nat} {r : List UInt8} {n j : Nat} (h : get r = some (n, j)) : stepR (k + 1) ns r = stepR k (ns ++ [n]) (r.drop j) := by
  unfold stepR
  rw [nums, h]
  simp only
  cases nums k (r.drop j) <;> simp
theorem stepR_none {k : Nat} {ns : List Nat} {r : List UInt8} (h : get r = none) : stepR (k + 1) ns r = none := by
  unfold stepR
  rw [nums, h]; rfl
/-- three pointers to numbers -/
structure Three (g : Nat) (p : Nat → Addr) (Z : List Nat → World → Prop) : Prop where
  later : ∀ ns W W', Z ns W → Below W.heap.size W W' → Z ns W'
  ptr : ∀ ns W i, Z ns W → i < 3 → W.cell? ⟨g, i, none⟩ = some (.pointer (some (p i)))
  val : ∀ ns W i, Z ns W → i < 3 → (∃ v, W.cell? (p i) = some (.int .i64 v)) ∧ W.frozen? (p i) = false
  set : ∀ ns W n, Z ns W → ns.length < 3 → Z (ns ++ [n]) (W.setCell (p ns.length) (.int .i64 (n : Nat)))
def GetsEx (R : Option (List Nat × List UInt8)) (Z : List Nat → World → Prop) (e : Ending) (w' : World) : Prop :=
  (∃ ns r, R = some (ns, r) ∧ e = .returned (.tuple #[.string ⟨r.toArray⟩, .bool true]) ∧ Z ns w') ∨ (R = none ∧ e = .returned (.tuple #[.string ⟨#[]⟩, .bool false]) ∧ ∃ ns, Z ns w')
structure GAt (c : UInt8) (s : List UInt8) (Z : List Nat → World → Prop) (k : Nat) (b : Bool) (r : List UInt8) (ns : List Nat) (wr : World) : Prop where
  le : k ≤ 3
  len : ns.length = k
  size : r.length ≤ s.length
  no : b = false → getsR c s = none ∧ k = 0
  yes : b = true → getsR c s = stepR (3 - k) ns r
  z : Z ns wr
set_option maxHeartbeats 4000000 in
theorem gets_any (c : UInt8) (s : List UInt8) (g : Nat) (p : Nat → Addr) (Z : List Nat → World → Prop) (w : World) (hZ : Three g p Z) (hz : Z [] w) (hs : s.length ≤ 140737488351232) :
    Calls Try.prog 32 #[.string ⟨s.toArray⟩, .string ⟨#[c]⟩, .slice (some ⟨g, 0, none⟩) 3 3] w (GetsEx (getsR c s) Z) := by
  have C1 := Lib.hid (fun W => cutPre s c W)
  have E0 : GAt c s Z 0 (bhB c s) (bhT c s) [] w := by
    refine ⟨by omega, rfl, ?_, ?_, ?_, hz⟩
    · unfold bhT
      cases h : behind c s with
      | none => simp
      | some r => obtain rfl := behind_some h; simp
    · intro h
      unfold bhB at h
      unfold getsR
      cases h2 : behind c s with
      | none => exact ⟨rfl, rfl⟩
      | some r => rw [h2] at h; simp at h
    · intro h
      unfold bhB at h
      unfold getsR bhT
      cases h2 : behind c s with
      | none => rw [h2] at h; simp at h
      | some r =>
        simp only [Option.getD_some, stepR, List.nil_append]
        cases nums 3 r <;> rfl
  generalize bhB c s = B at *
  generalize bhT c s = R0 at *
  have HZ := Lib.hid hZ
  clear hz hZ
  go_enter Try.func32, Try.ntmps32
  go_wp2_with fail
  refine (C1.out _).mono ?_
  rintro e w1 ⟨rfl, rfl⟩
  go_wp2_with fail
  go_loopw [6, 7, 21] (fun a b i wr => ∃ (k : Nat) (r : List UInt8) (ns : List Nat), i = .int .i64 k ∧ a = .string ⟨r.toArray⟩ ∧ b = .bool B ∧ GAt c s Z k B r ns wr) (fun _ _ i _ => 3 - (intOf i).toNat)
  case atStart => exact ⟨0, R0, [], rfl, rfl, rfl, E0⟩
  case round =>
    clear E0
    obtain ⟨k, r, ns, rfl, rfl, rfl, E⟩ := hrel
    have hk := E.le
    by_cases hlt : k < 3
    · have hp := HZ.out.ptr ns wr k E.z hlt
      obtain ⟨⟨v, hv⟩, hfz⟩ := HZ.out.val ns wr k E.z hlt
      have hr := E.size
      have c2 := fun W => getN_any r 0 W (by omega)
      rw [List.drop_zero] at c2
      cases B with
      | false =>
        have hno := (E.no rfl).1
        have HE := Lib.hid E
        cases hg : get r with
        | none =>
          rw [hg] at c2
          unfold getV at c2
          have C2 := Lib.hid c2
          clear c2 E hg
          go_wp2_with fail
          refine (C2.out _).mono ?_
          rintro e w1 ⟨rfl, rfl⟩
          go_wp2_with fail
          go_ret2
          exact .inr ⟨hno, rfl, ns, HE.out.z⟩
        | some q =>
          obtain ⟨n, j⟩ := q
          rw [hg] at c2
          unfold getV at c2
          have C2 := Lib.hid c2
          clear c2 E hg
          go_wp2_with fail
          refine (C2.out _).mono ?_
          rintro e w1 ⟨rfl, rfl⟩
          go_wp2_with fail
          go_ret2
          exact .inr ⟨hno, rfl, ns, HE.out.z⟩
      | true =>
        have hy := E.yes rfl
        have HE := Lib.hid E
        have HY := Lib.hid hy
        clear hy
        obtain ⟨m, hm⟩ : ∃ m, 3 - k = m + 1 := ⟨2 - k, by omega⟩
        have HM := Lib.hid hm
        clear hm
        cases hg : get r with
        | none =>
          have hno : getsR c s = none := by rw [HY.out, HM.out, stepR_none hg]
          rw [hg] at c2
          unfold getV at c2
          have C2 := Lib.hid c2
          clear c2 E hg
          go_wp2_with fail
          refine (C2.out _).mono ?_
          rintro e w1 ⟨rfl, rfl⟩
          go_wp2_with fail
          go_ret2
          exact .inr ⟨hno, rfl, ns, HE.out.z⟩
        | some q =>
          obtain ⟨n, j⟩ := q
          have hst : getsR c s = stepR m (ns ++ [n]) (r.drop j) := by rw [HY.out, HM.out, stepR_some hg]
          have HST := Lib.hid hst
          obtain ⟨g0, _, gk, gn, _⟩ := get_some hg
          have hlen := E.len
          have hset := HZ.out.set ns wr n E.z (by omega)
          rw [hlen] at hset
          have HSET := Lib.hid hset
          have hsl := fun W => strFrom r j ((0 + j : Nat) : Int) (by simp) gk W
          rw [hg] at c2
          unfold getV at c2
          have C2 := Lib.hid c2
          clear c2 E hg hst hset hlen
          go_wp2_with fail
          refine (C2.out _).mono ?_
          rintro e w1 ⟨rfl, rfl⟩
          go_wp2_with fail
          go_region_with fail
          all_goals go_wp2_with fail
          all_goals
            refine ⟨⟨k + 1, r.drop j, ns ++ [n], by go_num, ?_, rfl, ?_⟩, by simp [intOf]; omega⟩
            · rw [extract_bytes]; simp [List.take_of_length_le]
            · refine ⟨by omega, by simp [HE.out.len], by simp; omega, by simp, fun _ => ?_, HZ.out.later _ _ _ HSET.out (Below.refl _ _).drew⟩
              have : 3 - (k + 1) = m := by have := HM.out; omega
              rw [HST.out, this]
    · obtain rfl : k = 3 := by omega
      cases B with
      | false => have := (E.no rfl).2; omega
      | true =>
        have hy := E.yes rfl
        have HE := Lib.hid E
        have HY := Lib.hid hy
        clear E hy
        go_wp2_with fail
        go_ret2
        refine .inl ⟨ns, r, ?_, rfl, HE.out.z⟩
        rw [HY.out]; simp [stepR, nums]
end Go.Proofs.Ytheeekmhmbkncaa
