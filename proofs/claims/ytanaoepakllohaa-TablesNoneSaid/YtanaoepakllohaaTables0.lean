/- Plain facts, no program in sight: sums; a table's text; which texts are tables; ranges of a table's blocks; tables that are cut off, or go on; the laws of ranges; what the document's answer opens. -/
import Derived.Test.YtanaoepakllohaaMem1
namespace Spoor
open Go

/-! sums -/
def adStep (st : Nat × Nat) (c : UInt8) : Nat × Nat := ((st.1 + c.toNat) % 65521, (st.2 + (st.1 + c.toNat) % 65521) % 65521)
def adler (st : Nat × Nat) (l : List UInt8) : Nat × Nat := l.foldl adStep st
theorem adler_snoc (st : Nat × Nat) (l : List UInt8) (c : UInt8) : adler st (l ++ [c]) = adStep (adler st l) c := by simp [adler]
theorem adler_lt : ∀ (l : List UInt8) (st : Nat × Nat), st.1 < 65521 ∧ st.2 < 65521 → (adler st l).1 < 65521 ∧ (adler st l).2 < 65521
  | [], st, h => h
  | c :: l, st, _ => adler_lt l (adStep st c) ⟨Nat.mod_lt _ (by decide), Nat.mod_lt _ (by decide)⟩
def sumN (l : List UInt8) : Nat := (adler (1, 0) l).2 * 65536 + (adler (1, 0) l).1
theorem sumN_lt (l : List UInt8) : sumN l < 4294967296 := by
  have h := adler_lt l (1, 0) ⟨by decide, by decide⟩
  unfold sumN
  omega
def sum4 (n : Nat) : List UInt8 := [UInt8.ofNat (n / 16777216), UInt8.ofNat (n / 65536 % 256), UInt8.ofNat (n / 256 % 256), UInt8.ofNat (n % 256)]
def sumB (l : List UInt8) : List UInt8 := sum4 (sumN l)
theorem sumB_length (l : List UInt8) : (sumB l).length = 4 := rfl

/-! cells in blocks of four -/
def foursN : Nat → List Ce → List (List Ce)
  | 0, _ => []
  | n + 1, l => l.take 4 :: foursN n (l.drop 4)
def fours (l : List Ce) : List (List Ce) := foursN ((l.length + 3) / 4) l
theorem foursN_length : ∀ (n : Nat) (l : List Ce), (foursN n l).length = n
  | 0, _ => rfl
  | n + 1, l => by rw [foursN, List.length_cons, foursN_length n]
theorem fours_length (l : List Ce) : (fours l).length = (l.length + 3) / 4 := foursN_length _ _
theorem foursN_get : ∀ (n : Nat) (l : List Ce) (i : Nat), i < n → (foursN n l).getD i [] = (l.drop (i * 4)).take 4
  | 0, _, _, h => by omega
  | n + 1, l, 0, _ => by simp [foursN]
  | n + 1, l, i + 1, h => by
    rw [foursN, List.getD_cons_succ, foursN_get n _ i (by omega), List.drop_drop]
    congr 2
    omega
theorem fours_get (l : List Ce) (i : Nat) (h : i < (l.length + 3) / 4) : (fours l).getD i [] = (l.drop (i * 4)).take 4 := foursN_get _ _ _ h
/-- blocks as they may be: four cells each; the last one has at least one -/
def okG : List (List Ce) → Prop
  | [] => True
  | g :: gs => g ≠ [] ∧ g.length ≤ 4 ∧ (gs = [] ∨ g.length = 4) ∧ okG gs
theorem foursN_ok : ∀ (n : Nat) (l : List Ce), (l.length + 3) / 4 = n → okG (foursN n l) ∧ (foursN n l).flatten = l
  | 0, l, h => by
    have : l = [] := List.eq_nil_of_length_eq_zero (by omega)
    subst this
    exact ⟨trivial, rfl⟩
  | n + 1, l, h => by
    have hd : ((l.drop 4).length + 3) / 4 = n := by rw [List.length_drop]; omega
    obtain ⟨h1, h2⟩ := foursN_ok n (l.drop 4) hd
    refine ⟨⟨fun e => ?_, ?_, ?_, h1⟩, ?_⟩
    · have := congrArg List.length e
      rw [List.length_take] at this
      simp only [List.length_nil] at this
      omega
    · rw [List.length_take]; omega
    · rw [List.length_take]
      by_cases hn : n = 0
      · left; subst hn; rfl
      · right; omega
    · rw [foursN, List.flatten_cons, h2, List.take_append_drop]
theorem fours_ok (l : List Ce) : okG (fours l) := (foursN_ok _ l rfl).1
theorem fours_flat (l : List Ce) : (fours l).flatten = l := (foursN_ok _ l rfl).2
theorem okG_fours : ∀ {gs : List (List Ce)}, okG gs → (gs.flatten.length + 3) / 4 = gs.length ∧ foursN gs.length gs.flatten = gs
  | [], _ => ⟨rfl, rfl⟩
  | g :: gs, h => by
    obtain ⟨h0, h1, h2, h3⟩ := h
    obtain ⟨i1, i2⟩ := okG_fours h3
    have hg : 0 < g.length := List.length_pos_iff.2 h0
    rw [List.flatten_cons, List.length_cons, List.length_append, foursN]
    rcases h2 with rfl | h2
    · refine ⟨by simp; omega, ?_⟩
      simp only [List.flatten_nil, List.append_nil, List.length_nil, foursN]
      rw [List.take_of_length_le h1]
    · refine ⟨by omega, ?_⟩
      rw [← h2, List.take_left, List.drop_left, i2]
theorem fours_of {gs : List (List Ce)} (h : okG gs) : fours gs.flatten = gs := by
  obtain ⟨h1, h2⟩ := okG_fours h
  unfold fours
  rw [h1, h2]

/-! a table's text -/
def keyG (g : List Ce) : List UInt8 := (g.headD Ce.zero).k
def mark : List UInt8 := [115, 112, 111, 111, 114]
def dataOf (g : List Ce) : List UInt8 := blockB g ++ sumB (blockB g)
def idxOf (g : List Ce) : List UInt8 := putText (keyG g) ++ put (blockB g).length
def dataG (gs : List (List Ce)) : List UInt8 := gs.flatMap dataOf
def idxG (gs : List (List Ce)) : List UInt8 := gs.flatMap idxOf
def indexG (gs : List (List Ce)) : List UInt8 := put gs.length ++ idxG gs
def tableG (gs : List (List Ce)) : List UInt8 := dataG gs ++ (indexG gs ++ (sumB (indexG gs) ++ (big (dataG gs).length ++ (big gs.flatten.length ++ mark))))
def tableB (l : List Ce) : List UInt8 := tableG (fours l)

/-! which texts are tables -/
/-- so many blocks, from two places on, behind a cell -/
def openL (data index : List UInt8) : Nat → Nat → Nat → Option Ce → Option (List (List Ce) × Nat × Nat)
  | 0, ia, da, _ => some ([], ia, da)
  | n + 1, ia, da, p =>
    match getText (index.drop ia) with
    | none => none
    | some (key, k1) =>
      match get (index.drop (ia + k1)) with
      | none => none
      | some (m, k2) =>
        if data.length < da + m + 4 then none else
        if (data.drop (da + m)).take 4 ≠ sumB ((data.drop da).take m) then none else
        match decB ((data.drop da).take m) with
        | none => none
        | some g => if g ≠ [] ∧ keyG g = key ∧ (n = 0 ∨ g.length = 4) ∧ g.length ≤ 4 ∧ sortedFrom p g = true then (openL data index n (ia + k1 + k2) (da + m + 4) (lastOr p g)).map fun r => (g :: r.1, r.2) else none
def openT (text : List UInt8) : Option (List (List Ce)) :=
  if text.length < 25 ∨ text.drop (text.length - 5) ≠ mark then none else
  match ofBig (text.drop (text.length - 25 + 4)) with
  | none => none
  | some size =>
    match ofBig (text.drop (text.length - 25 + 12)) with
    | none => none
    | some many =>
      if text.length - 25 < size then none else
      if sumB ((text.drop size).take (text.length - 25 - size)) ≠ (text.drop (text.length - 25)).take 4 then none else
      match get ((text.drop size).take (text.length - 25 - size)) with
      | none => none
      | some (n, k) =>
        match openL (text.take size) ((text.drop size).take (text.length - 25 - size)) n k 0 none with
        | none => none
        | some (gs, ia, da) => if ia = text.length - 25 - size ∧ da = size ∧ gs.flatten.length = many ∧ many ≤ 4096 then some gs else none
theorem decB_fits {s : List UInt8} {l : List Ce} (h : decB s = some l) : l.length ≤ 9223372036854775807 ∧ ∀ c ∈ l, c.q ≤ 9223372036854775807 := by
  have hr := (decB_some h).2.2
  unfold refDec at hr
  cases e : get s with
  | none => rw [e] at hr; simp at hr
  | some r =>
    obtain ⟨m, k⟩ := r
    rw [e] at hr
    simp only at hr
    cases e2 : refEach s m k none with
    | none => rw [e2] at hr; simp at hr
    | some r2 =>
      obtain ⟨l2, n2⟩ := r2
      rw [e2] at hr
      simp only at hr
      split at hr
      · cases hr
        obtain ⟨b1, b2⟩ := refEach_ints m k none _ n2 e2
        exact ⟨by have := (get_some e).2.2.2.1; omega, b2⟩
      · cases hr
theorem sortedFrom_none {p : Option Ce} : ∀ {l : List Ce}, sortedFrom p l = true → sortedB l = true
  | [], _ => rfl
  | c :: l, h => by
    simp only [sortedFrom, Bool.and_eq_true] at h
    simp only [sortedB, sortedFrom, Bool.and_eq_true]
    refine ⟨?_, h.2⟩
    have := okAfter_may h.1
    exact this
theorem openL_some {data index : List UInt8} : ∀ (n ia da : Nat) (p : Option Ce) (gs : List (List Ce)) (ia' da' : Nat), ia ≤ index.length → da ≤ data.length → openL data index n ia da p = some (gs, ia', da') →
    gs.length = n ∧ okG gs ∧ ia' ≤ index.length ∧ da' ≤ data.length ∧ index.take ia' = index.take ia ++ idxG gs ∧ data.take da' = data.take da ++ dataG gs ∧ sortedFrom p gs.flatten = true ∧ ∀ c ∈ gs.flatten, c.q ≤ 9223372036854775807
  | 0, ia, da, p, gs, ia', da', hi, hd, h => by
    simp only [openL, Option.some.injEq, Prod.mk.injEq] at h
    obtain ⟨rfl, rfl, rfl⟩ := h
    exact ⟨rfl, trivial, hi, hd, by simp [idxG], by simp [dataG], rfl, by simp⟩
  | n + 1, ia, da, p, gs, ia', da', hi, hd, h => by
    simp only [openL] at h
    cases e1 : getText (index.drop ia) with
    | none => rw [e1] at h; simp at h
    | some r1 =>
      obtain ⟨key, k1⟩ := r1
      rw [e1] at h
      simp only at h
      cases e2 : get (index.drop (ia + k1)) with
      | none => rw [e2] at h; simp at h
      | some r2 =>
        obtain ⟨m, k2⟩ := r2
        rw [e2] at h
        simp only at h
        split at h
        · cases h
        · rename_i hlen
          split at h
          · cases h
          · rename_i hsum
            cases e3 : decB ((data.drop da).take m) with
            | none => rw [e3] at h; simp at h
            | some g =>
              rw [e3] at h
              simp only at h
              split at h
              · rename_i hc
                obtain ⟨c1, c2, c3, c4, c5⟩ := hc
                obtain ⟨p1, t1⟩ := bk_getText e1 hi
                obtain ⟨p2, q2, t2⟩ := bk_get e2
                cases e4 : openL data index n (ia + k1 + k2) (da + m + 4) (lastOr p g) with
                | none => rw [e4] at h; simp at h
                | some r4 =>
                  obtain ⟨gs', i2, d2⟩ := r4
                  rw [e4] at h
                  simp only [Option.map_some, Option.some.injEq, Prod.mk.injEq] at h
                  obtain ⟨rfl, rfl, rfl⟩ := h
                  obtain ⟨a1, a2, a3, a4, a5, a6, a7, a8⟩ := openL_some n _ _ _ _ _ _ p2 (by omega) e4
                  obtain ⟨b1, b2, -⟩ := decB_some e3
                  obtain ⟨b3, b4⟩ := decB_fits e3
                  have hbl : ((data.drop da).take m).length = m := by rw [List.length_take, List.length_drop]; omega
                  have hgl : (blockB g).length = m := by rw [b2, hbl]
                  have hsum' : (data.drop (da + m)).take 4 = sumB ((data.drop da).take m) := Classical.not_not.1 hsum
                  refine ⟨by simp [a1], ⟨c1, c4, ?_, a2⟩, a3, a4, ?_, ?_, ?_, ?_⟩
                  · rcases c3 with rfl | c3
                    · left; exact List.eq_nil_of_length_eq_zero a1
                    · right; exact c3
                  · rw [a5, t2, t1]
                    simp only [idxG, List.flatMap_cons, idxOf, hgl, c2, List.append_assoc]
                  · have e5 : data.take (da + m + 4) = data.take da ++ dataOf g := by
                      rw [Nat.add_assoc, List.take_add, List.take_add, List.drop_drop, hsum', ← b2]
                      rfl
                    rw [a6, e5]
                    simp only [dataG, List.flatMap_cons, List.append_assoc]
                  · rw [List.flatten_cons, sortedFrom_app, c5, a7]
                    rfl
                  · intro c hc
                    rw [List.flatten_cons, List.mem_append] at hc
                    rcases hc with hc | hc
                    · exact b4 c hc
                    · exact a8 c hc
              · cases h
theorem lastOr_cons (p : Option Ce) : ∀ {g : List Ce}, g ≠ [] → ∀ q : Option Ce, lastOr p g = lastOr q g
  | [], h, _ => absurd rfl h
  | [c], _, _ => rfl
  | c :: d :: l, _, q => by
    have := lastOr_cons (some c) (g := d :: l) (by simp) (some c)
    show lastOr (some c) (d :: l) = lastOr (some c) (d :: l)
    rfl
theorem openL_build {data index : List UInt8} : ∀ (gs : List (List Ce)) (ia da : Nat) (p : Option Ce) (r1 r2 : List UInt8), okG gs → sortedFrom p gs.flatten = true → (∀ c ∈ gs.flatten, c.q ≤ 9223372036854775807) → index.drop ia = idxG gs ++ r1 → data.drop da = dataG gs ++ r2 → ia ≤ index.length → da ≤ data.length →
    openL data index gs.length ia da p = some (gs, ia + (idxG gs).length, da + (dataG gs).length)
  | [], ia, da, p, r1, r2, _, _, _, _, _, _, _ => by simp [openL, idxG, dataG]
  | g :: gs, ia, da, p, r1, r2, hok, hs, hq, hi, hd, hil, hdl => by
    obtain ⟨h0, h1, h2, h3⟩ := hok
    rw [List.flatten_cons, sortedFrom_app, Bool.and_eq_true] at hs
    have hsb := sortedFrom_none hs.1
    have hqg : ∀ c ∈ g, c.q ≤ 9223372036854775807 := fun c hc => hq c (by simp [hc])
    have hmg := sorted_may hsb
    have hkl : (keyG g).length ≤ 64 := by
      cases g with
      | nil => exact absurd rfl h0
      | cons c l => exact (may_of (hmg c (by simp))).2.1
    have hbl := blockB_len hsb hqg (by omega)
    simp only [idxG, List.flatMap_cons, idxOf, List.append_assoc] at hi
    simp only [dataG, List.flatMap_cons, dataOf, List.append_assoc] at hd
    have e1 : getText (index.drop ia) = some (keyG g, (putText (keyG g)).length) := by rw [hi]; exact getText_putText _ _ (by omega)
    have hi2 := drop_of' hi
    have e2 : get (index.drop (ia + (putText (keyG g)).length)) = some ((blockB g).length, (put (blockB g).length).length) := by rw [hi2]; exact get_put _ _ (by omega)
    have hi3 := drop_of' hi2
    have hdl2 := congrArg List.length hd
    simp only [List.length_drop, List.length_append, sumB_length] at hdl2
    have e3 : (data.drop da).take (blockB g).length = blockB g := by rw [hd, List.take_left]
    have hd2 := drop_of' hd
    have e4 : (data.drop (da + (blockB g).length)).take 4 = sumB (blockB g) := by
      rw [hd2]
      have := List.take_left (l₁ := sumB (blockB g)) (l₂ := gs.flatMap dataOf ++ r2)
      rwa [sumB_length] at this
    have hd3 := drop_of' hd2
    have hil2 := congrArg List.length hi
    simp only [List.length_drop, List.length_append] at hil2
    have ih := openL_build gs (ia + (putText (keyG g)).length + (put (blockB g).length).length) (da + (blockB g).length + 4) (lastOr p g) r1 r2 h3 hs.2 (fun c hc => hq c (by simp at hc ⊢; right; exact hc)) hi3 hd3 (by omega) (by omega)
    rw [List.length_cons, openL, e1]
    simp only [e2, e3, e4]
    rw [if_neg (by omega), if_neg (by simp), decB_block hsb (by omega) hqg]
    simp only
    rw [if_pos ⟨h0, trivial, by rcases h2 with rfl | h2; exact .inl rfl; exact .inr h2, h1, hs.1⟩, ih]
    simp only [Option.map_some, idxG, dataG, List.flatMap_cons, idxOf, dataOf, List.length_append, sumB_length, Option.some.injEq, Prod.mk.injEq, true_and]
    constructor <;> omega
theorem dataG_len : ∀ {gs : List (List Ce)} {p : Option Ce}, okG gs → sortedFrom p gs.flatten = true → (∀ c ∈ gs.flatten, c.q ≤ 9223372036854775807) → (dataG gs).length ≤ 925 * gs.length ∧ (idxG gs).length ≤ 82 * gs.length
  | [], _, _, _, _ => by simp [dataG, idxG]
  | g :: gs, p, hok, hs, hq => by
    obtain ⟨h0, h1, h2, h3⟩ := hok
    rw [List.flatten_cons, sortedFrom_app, Bool.and_eq_true] at hs
    have hsb := sortedFrom_none hs.1
    have hqg : ∀ c ∈ g, c.q ≤ 9223372036854775807 := fun c hc => hq c (by simp [hc])
    have hmg := sorted_may hsb
    have hkl : (keyG g).length ≤ 64 := by
      cases g with
      | nil => exact absurd rfl h0
      | cons c l => exact (may_of (hmg c (by simp))).2.1
    have hbl := blockB_len hsb hqg (by omega)
    obtain ⟨i1, i2⟩ := dataG_len h3 hs.2 (fun c hc => hq c (by simp at hc ⊢; right; exact hc))
    have p1 := put_length9 (keyG g).length (by omega)
    have p2 := put_length9 (blockB g).length (by omega)
    simp only [dataG, idxG, List.flatMap_cons, dataOf, idxOf, putText, List.length_append, sumB_length, List.length_cons] at *
    omega
theorem table_len {l : List Ce} (hs : sortedB l = true) (hq : ∀ c ∈ l, c.q ≤ 9223372036854775807) (hl : l.length ≤ 100000) : (dataG (fours l)).length ≤ 925 * (l.length + 3) ∧ (indexG (fours l)).length ≤ 9 + 82 * (l.length + 3) ∧ (tableB l).length ≤ 40 + 1007 * (l.length + 3) := by
  have h := dataG_len (fours_ok l) (by rw [fours_flat]; exact hs) (by rw [fours_flat]; exact hq)
  have hn := fours_length l
  have p := put_length9 (fours l).length (by omega)
  unfold tableB tableG indexG
  simp only [List.length_append, sumB_length, big_length]
  have : mark.length = 5 := rfl
  omega
theorem open_build {l : List Ce} (hs : sortedB l = true) (hl : l.length ≤ 4096) (hq : ∀ c ∈ l, c.q ≤ 9223372036854775807) : openT (tableB l) = some (fours l) := by
  have h := table_len hs hq (by omega)
  have hn := fours_length l
  have hfl := fours_flat l
  generalize hG : fours l = gs at *
  have hok : okG gs := hG ▸ fours_ok l
  have hml : mark.length = 5 := rfl
  have hT : tableB l = dataG gs ++ (indexG gs ++ (sumB (indexG gs) ++ (big (dataG gs).length ++ (big gs.flatten.length ++ mark)))) := by unfold tableB tableG; rw [hG]
  obtain ⟨D, hD⟩ : ∃ D, dataG gs = D := ⟨_, rfl⟩
  obtain ⟨I, hI⟩ : ∃ I, indexG gs = I := ⟨_, rfl⟩
  rw [hD, hI] at hT
  rw [hD, hI] at h
  have hlen : (tableB l).length = D.length + I.length + 25 := by
    rw [hT]; simp only [List.length_append, sumB_length, big_length, hml]; omega
  have d5 : (tableB l).drop ((tableB l).length - 5) = mark := by
    have e : (tableB l) = (D ++ (I ++ (sumB I ++ (big D.length ++ big gs.flatten.length)))) ++ mark := by rw [hT]; simp
    have e2 : (tableB l).length - 5 = (D ++ (I ++ (sumB I ++ (big D.length ++ big gs.flatten.length)))).length := by
      rw [hlen]; simp only [List.length_append, sumB_length, big_length]; omega
    rw [e2, e, List.drop_left]
  have dS : (tableB l).drop ((tableB l).length - 25 + 4) = big D.length ++ (big gs.flatten.length ++ mark) := by
    have e : (tableB l) = (D ++ (I ++ sumB I)) ++ (big D.length ++ (big gs.flatten.length ++ mark)) := by rw [hT]; simp
    have e2 : (tableB l).length - 25 + 4 = (D ++ (I ++ sumB I)).length := by
      rw [hlen]; simp only [List.length_append, sumB_length]; omega
    rw [e2, e, List.drop_left]
  have dM : (tableB l).drop ((tableB l).length - 25 + 12) = big gs.flatten.length ++ mark := by
    have e : (tableB l) = (D ++ (I ++ (sumB I ++ big D.length))) ++ (big gs.flatten.length ++ mark) := by rw [hT]; simp
    have e2 : (tableB l).length - 25 + 12 = (D ++ (I ++ (sumB I ++ big D.length))).length := by
      rw [hlen]; simp only [List.length_append, sumB_length, big_length]; omega
    rw [e2, e, List.drop_left]
  have dE : ((tableB l).drop ((tableB l).length - 25)).take 4 = sumB I := by
    have e : (tableB l) = (D ++ I) ++ (sumB I ++ (big D.length ++ (big gs.flatten.length ++ mark))) := by rw [hT]; simp
    have e2 : (tableB l).length - 25 = (D ++ I).length := by rw [hlen]; simp
    rw [e2, e, List.drop_left]
    have := List.take_left (l₁ := sumB I) (l₂ := big D.length ++ (big gs.flatten.length ++ mark))
    rwa [sumB_length] at this
  have dI : ((tableB l).drop D.length).take ((tableB l).length - 25 - D.length) = I := by
    rw [hlen, show D.length + I.length + 25 - 25 - D.length = I.length by omega, hT, List.drop_left, List.take_left]
  have dD : (tableB l).take D.length = D := by rw [hT, List.take_left]
  unfold openT
  rw [if_neg (by rw [d5]; simp; omega), dS, ofBig_big _ _ (by omega)]
  simp only
  rw [dM, ofBig_big _ _ (by rw [hfl]; omega)]
  simp only
  rw [if_neg (by omega), dI, dE, if_neg (by simp), dD]
  have hg : get I = some (gs.length, (put gs.length).length) := by
    rw [← hI]; exact get_put _ _ (by omega)
  rw [hg]
  have hb := openL_build (data := D) (index := I) gs (put gs.length).length 0 none [] [] hok (by rw [hfl]; exact hs) (by rw [hfl]; exact hq)
    (by rw [← hI]; unfold indexG; rw [List.drop_left]; simp) (by rw [← hD]; simp) (by rw [← hI]; unfold indexG; simp) (Nat.zero_le _)
  simp only [hb]
  have hil : (put gs.length).length + (idxG gs).length = I.length := by rw [← hI]; unfold indexG; simp
  rw [if_pos]
  refine ⟨by rw [hil]; omega, by rw [hD]; omega, trivial, by rw [hfl]; exact hl⟩
theorem open_some {text : List UInt8} {gs : List (List Ce)} (h : openT text = some gs) : sortedB gs.flatten = true ∧ gs.flatten.length ≤ 4096 ∧ (∀ c ∈ gs.flatten, c.q ≤ 9223372036854775807) ∧ fours gs.flatten = gs ∧ tableB gs.flatten = text := by
  unfold openT at h
  split at h
  · cases h
  · rename_i hm
    have hm1 : 25 ≤ text.length := by
      rcases Nat.lt_or_ge text.length 25 with h | h
      · exact absurd (.inl h) hm
      · exact h
    have hm2 : text.drop (text.length - 5) = mark := Classical.not_not.1 (fun h => hm (.inr h))
    cases e1 : ofBig (text.drop (text.length - 25 + 4)) with
    | none => rw [e1] at h; simp at h
    | some size =>
      rw [e1] at h
      simp only at h
      cases e2 : ofBig (text.drop (text.length - 25 + 12)) with
      | none => rw [e2] at h; simp at h
      | some many =>
        rw [e2] at h
        simp only at h
        split at h
        · cases h
        · rename_i hsz
          split at h
          · cases h
          · rename_i hsum
            have hsum' := Classical.not_not.1 hsum
            obtain ⟨I, hI⟩ : ∃ I, (text.drop size).take (text.length - 25 - size) = I := ⟨_, rfl⟩
            have hIl : I.length = text.length - 25 - size := by rw [← hI, List.length_take, List.length_drop]; omega
            rw [hI] at h hsum'
            cases e3 : get I with
            | none => rw [e3] at h; simp at h
            | some r3 =>
              obtain ⟨n, k⟩ := r3
              rw [e3] at h
              simp only at h
              cases e4 : openL (text.take size) I n k 0 none with
              | none => rw [e4] at h; simp at h
              | some r4 =>
                obtain ⟨gs', ia, da⟩ := r4
                rw [e4] at h
                simp only at h
                split at h
                · rename_i hc
                  obtain ⟨c1, c2, c3, c4⟩ := hc
                  cases h
                  have hDl : (text.take size).length = size := by rw [List.length_take]; omega
                  have hg := get_some e3
                  obtain ⟨a1, a2, a3, a4, a5, a6, a7, a8⟩ := openL_some n k 0 none gs ia da hg.2.2.1 (Nat.zero_le _) e4
                  obtain ⟨o1, o2, o3⟩ := ofBig_some e1
                  obtain ⟨m1, m2, m3⟩ := ofBig_some e2
                  have hf := fours_of a2
                  refine ⟨a7, by omega, a8, hf, ?_⟩
                  have hD : text.take size = dataG gs := by
                    have := a6
                    rw [c2, List.take_zero, List.nil_append] at this
                    rwa [List.take_of_length_le (by rw [hDl]; exact Nat.le_refl _)] at this
                  have hI2 : I = indexG gs := by
                    have := a5
                    rw [c1, ← hIl, List.take_length, hg.2.2.2.2] at this
                    unfold indexG
                    rw [a1]
                    exact this
                  have hDs : (dataG gs).length = size := by rw [← hD, hDl]
                  unfold tableB tableG
                  rw [hf, ← hI2, hDs, ← hD]
                  have t1 : text = text.take size ++ (I ++ ((text.drop (text.length - 25)).take 4 ++ ((text.drop (text.length - 25 + 4)).take 8 ++ ((text.drop (text.length - 25 + 12)).take 8 ++ text.drop (text.length - 5))))) := by
                    have x5 : text.drop (text.length - 25 + 12) = (text.drop (text.length - 25 + 12)).take 8 ++ text.drop (text.length - 5) := by
                      have := List.take_append_drop 8 (text.drop (text.length - 25 + 12))
                      rw [List.drop_drop, show text.length - 25 + 12 + 8 = text.length - 5 by omega] at this
                      exact this.symm
                    have x4 : text.drop (text.length - 25 + 4) = (text.drop (text.length - 25 + 4)).take 8 ++ text.drop (text.length - 25 + 12) := by
                      have := List.take_append_drop 8 (text.drop (text.length - 25 + 4))
                      rw [List.drop_drop, show text.length - 25 + 4 + 8 = text.length - 25 + 12 by omega] at this
                      exact this.symm
                    have x3 : text.drop (text.length - 25) = (text.drop (text.length - 25)).take 4 ++ text.drop (text.length - 25 + 4) := by
                      have := List.take_append_drop 4 (text.drop (text.length - 25))
                      rw [List.drop_drop] at this
                      exact this.symm
                    have x2 : text.drop size = I ++ text.drop (text.length - 25) := by
                      have := List.take_append_drop (text.length - 25 - size) (text.drop size)
                      rw [List.drop_drop, hI, show size + (text.length - 25 - size) = text.length - 25 by omega] at this
                      exact this.symm
                    have x1 := (List.take_append_drop size text).symm
                    rw [x2, x3, x4, x5] at x1
                    exact x1
                  rw [o3, m3, hm2, ← hsum'] at t1
                  rw [c3]
                  exact t1.symm
                · cases h
theorem open_iff {text : List UInt8} {gs : List (List Ce)} : openT text = some gs ↔ ∃ l, sortedB l = true ∧ l.length ≤ 4096 ∧ (∀ c ∈ l, c.q ≤ 9223372036854775807) ∧ gs = fours l ∧ tableB l = text := by
  constructor
  · intro h
    obtain ⟨h1, h2, h3, h4, h5⟩ := open_some h
    exact ⟨gs.flatten, h1, h2, h3, h4.symm, h5⟩
  · rintro ⟨l, h1, h2, h3, rfl, rfl⟩
    exact open_build h1 h2 h3
end Spoor
namespace Spoor
open Go

theorem keyG_head {g : List Ce} (h : g ≠ []) : ∃ c l, g = c :: l ∧ keyG g = c.k := by
  cases g with
  | nil => exact absurd rfl h
  | cons c l => exact ⟨c, l, rfl, rfl⟩
theorem getD_mem' {gs : List (List Ce)} {k : Nat} (h : k < gs.length) : gs.getD k [] ∈ gs := by simp [List.getD, h]
theorem flat_at {gs : List (List Ce)} {k : Nat} (h : k < gs.length) : gs.flatten = (gs.take k).flatten ++ (gs.getD k [] ++ (gs.drop (k + 1)).flatten) := by
  have e : gs = gs.take k ++ (gs.getD k [] :: gs.drop (k + 1)) := by
    have h1 : gs.drop k = gs.getD k [] :: gs.drop (k + 1) := by
      rw [List.drop_eq_getElem_cons h]
      simp [List.getD, h]
    rw [← h1, List.take_append_drop]
  conv => lhs; rw [e, List.flatten_append, List.flatten_cons]
theorem range_start {gs : List (List Ce)} (hr : Rise gs.flatten) (hne : ∀ g ∈ gs, g ≠ []) {k : Nat} {x y : List UInt8} (hk : k = 0 ∨ (k < gs.length ∧ Op.bytesLess (keyG (gs.getD k [])) x = true)) : rangeC (gs.take k).flatten x y = [] := by
  rcases hk with rfl | ⟨hk, hx⟩
  · simp [rangeC]
  · rw [flat_at hk] at hr
    obtain ⟨c, l, e, ek⟩ := keyG_head (hne _ (getD_mem' hk))
    rw [ek] at hx
    refine List.filter_eq_nil_iff.2 fun d hd => ?_
    have h1 := (List.pairwise_append.1 hr).2.2 d hd c (by rw [e]; simp)
    have h2 := key_mono h1 hx
    unfold within
    simp [h2]
theorem range_stop {gs : List (List Ce)} (hr : Rise gs.flatten) (hne : ∀ g ∈ gs, g ≠ []) {k : Nat} {x y : List UInt8} (hk : k < gs.length) (hy : y ≠ []) (h : Op.bytesLess (keyG (gs.getD k [])) y = false) : rangeC (gs.take k).flatten x y = rangeC gs.flatten x y := by
  conv => rhs; rw [flat_at hk, rangeC_app]
  rw [flat_at hk] at hr
  obtain ⟨c, l, e, ek⟩ := keyG_head (hne _ (getD_mem' hk))
  rw [ek] at h
  have hr2 := (List.pairwise_append.1 hr).2.1
  rw [e, List.cons_append] at hr2
  have hz : rangeC (gs.getD k [] ++ (gs.drop (k + 1)).flatten) x y = [] := by
    refine List.filter_eq_nil_iff.2 fun d hd => ?_
    have h3 : Op.bytesLess d.k y = false := by
      rw [e, List.cons_append] at hd
      rcases List.mem_cons.1 hd with rfl | hd
      · exact h
      · have h1 := (List.pairwise_cons.1 hr2).1 d hd
        cases f : Op.bytesLess d.k y with
        | false => rfl
        | true => rw [key_mono h1 f] at h; cases h
    unfold within
    simp [h3, hy]
  rw [hz, List.append_nil]

/-! a table's text tells where it ends -/
def IdxLike (X : List UInt8) : Prop := ∃ (N : Nat) (rest : List UInt8), N ≤ 9223372036854775807 ∧ X = put N ++ rest ∧ (N = 0 ∨ ∃ c r, rest = c :: r ∧ c ≠ 0)
def BlkOk (g : List Ce) : Prop := g ≠ [] ∧ sortedB g = true ∧ g.length ≤ 9223372036854775807 ∧ ∀ c ∈ g, c.q ≤ 9223372036854775807
theorem block_two {g g' : List Ce} {A A' : List UInt8} (h : BlkOk g) (h' : BlkOk g') (e : blockB g ++ A = blockB g' ++ A') : g = g' ∧ A = A' := by
  obtain ⟨a1, a2⟩ := each_block A h.2.1 h.2.2.1 h.2.2.2
  obtain ⟨b1, b2⟩ := each_block A' h'.2.1 h'.2.2.1 h'.2.2.2
  rw [e, b1] at a1
  simp only [Option.some.injEq, Prod.mk.injEq] at a1
  rw [e, ← a1.1, b2] at a2
  simp only [Option.some.injEq, Prod.mk.injEq] at a2
  obtain ⟨rfl, _⟩ := a2
  exact ⟨rfl, List.append_cancel_left e⟩
theorem block_begins {g : List Ce} (h : BlkOk g) : ∃ r, blockB g = put g.length ++ (0 :: r) := by
  obtain ⟨c, l, rfl, -⟩ := keyG_head h.1
  refine ⟨putText (c.k.drop 0) ++ (put c.q.toNat ++ putText c.v) ++ bodyB (some c) l, ?_⟩
  have e : common [] c.k = 0 := by unfold common; cases c.k <;> rfl
  unfold blockB
  simp only [bodyB, lastKey, cellBytes, e]
  rw [put_small 0 (by omega)]
  simp
theorem idx_not_block {X : List UInt8} (h : IdxLike X) {g : List Ce} (hg : BlkOk g) {A : List UInt8} (e : X = blockB g ++ A) : False := by
  obtain ⟨N, rest, hN, e1, e2⟩ := h
  obtain ⟨r, er⟩ := block_begins hg
  rw [e1, er, List.append_assoc] at e
  have g1 := get_put N rest hN
  have g2 := get_put g.length ((0 :: r) ++ A) hg.2.2.1
  rw [e, g2] at g1
  simp only [Option.some.injEq, Prod.mk.injEq] at g1
  have hpos : 0 < g.length := List.length_pos_iff.2 hg.1
  rcases e2 with rfl | ⟨c, r', e2, hc⟩
  · omega
  · rw [← g1.1] at e
    have := List.append_cancel_left e
    rw [e2] at this
    simp only [List.cons_append, List.cons.injEq] at this
    exact hc this.1
theorem data_two : ∀ {gs gs' : List (List Ce)} {X X' : List UInt8}, (∀ g ∈ gs, BlkOk g) → (∀ g ∈ gs', BlkOk g) → IdxLike X → IdxLike X' → dataG gs ++ X = dataG gs' ++ X' → gs = gs' ∧ X = X'
  | [], [], X, X', _, _, _, _, e => ⟨rfl, e⟩
  | [], g' :: gs', X, X', _, h', hX, _, e => by
    simp only [dataG, List.flatMap_nil, List.nil_append, List.flatMap_cons, dataOf, List.append_assoc] at e
    exact (idx_not_block hX (h' g' (by simp)) e).elim
  | g :: gs, [], X, X', h, _, _, hX', e => by
    simp only [dataG, List.flatMap_nil, List.nil_append, List.flatMap_cons, dataOf, List.append_assoc] at e
    exact (idx_not_block hX' (h g (by simp)) e.symm).elim
  | g :: gs, g' :: gs', X, X', h, h', hX, hX', e => by
    simp only [dataG, List.flatMap_cons, dataOf, List.append_assoc] at e
    obtain ⟨rfl, e2⟩ := block_two (h g (by simp)) (h' g' (by simp)) e
    have e3 := List.append_cancel_left e2
    obtain ⟨rfl, e4⟩ := data_two (fun x hx => h x (by simp [hx])) (fun x hx => h' x (by simp [hx])) hX hX' e3
    exact ⟨rfl, e4⟩
theorem fours_blk {l : List Ce} (hs : sortedB l = true) (hq : ∀ c ∈ l, c.q ≤ 9223372036854775807) : ∀ g ∈ fours l, BlkOk g := by
  have key : ∀ (gs : List (List Ce)) (p : Option Ce), okG gs → sortedFrom p gs.flatten = true → (∀ c ∈ gs.flatten, c.q ≤ 9223372036854775807) → ∀ g ∈ gs, BlkOk g := by
    intro gs
    induction gs with
    | nil => intro p _ _ _ g hg; simp at hg
    | cons g gs ih =>
      intro p hok hs hq x hx
      obtain ⟨h0, h1, h2, h3⟩ := hok
      rw [List.flatten_cons, sortedFrom_app, Bool.and_eq_true] at hs
      rcases List.mem_cons.1 hx with rfl | hx
      · exact ⟨h0, sortedFrom_none hs.1, by omega, fun c hc => hq c (by simp [hc])⟩
      · exact ih _ h3 hs.2 (fun c hc => hq c (by simp at hc ⊢; right; exact hc)) x hx
  exact key _ none (fours_ok l) (by rw [fours_flat]; exact hs) (by rw [fours_flat]; exact hq)
theorem index_like {gs : List (List Ce)} (h : ∀ g ∈ gs, BlkOk g) (hl : gs.length ≤ 9223372036854775807) (Y : List UInt8) : IdxLike (indexG gs ++ Y) := by
  refine ⟨gs.length, idxG gs ++ Y, hl, by unfold indexG; rw [List.append_assoc], ?_⟩
  cases gs with
  | nil => left; rfl
  | cons g gs =>
    right
    obtain ⟨c, l, rfl, hk⟩ := keyG_head (h g (by simp)).1
    have hm := may_of (sorted_may (h (c :: l) (by simp)).2.1 c (by simp))
    refine ⟨UInt8.ofNat c.k.length, c.k ++ put (blockB (c :: l)).length ++ idxG gs ++ Y, ?_, fun e => ?_⟩
    · simp only [idxG, List.flatMap_cons, idxOf, hk, putText]
      rw [put_small _ (by omega)]
      simp
    · have := congrArg UInt8.toNat e
      simp at this
      omega
theorem table_two {l l' : List Ce} {r r' : List UInt8} (hs : sortedB l = true) (hq : ∀ c ∈ l, c.q ≤ 9223372036854775807) (hl : l.length ≤ 100000) (hs' : sortedB l' = true) (hq' : ∀ c ∈ l', c.q ≤ 9223372036854775807) (hl' : l'.length ≤ 100000)
    (e : tableB l ++ r = tableB l' ++ r') : l = l' ∧ r = r' := by
  have n1 := fours_length l
  have n2 := fours_length l'
  have b1 := fours_blk hs hq
  have b2 := fours_blk hs' hq'
  have e0 := e
  unfold tableB tableG at e
  simp only [List.append_assoc] at e
  obtain ⟨e1, -⟩ := data_two b1 b2 (index_like b1 (by omega) _) (index_like b2 (by omega) _) e
  have e2 : l = l' := by rw [← fours_flat l, e1, fours_flat]
  subst e2
  exact ⟨rfl, List.append_cancel_left e0⟩
theorem torn_cut {l : List Ce} (hs : sortedB l = true) (hq : ∀ c ∈ l, c.q ≤ 9223372036854775807) (hl : l.length ≤ 4096) {i : Nat} (hi : i < (tableB l).length) : openT ((tableB l).take i) = none := by
  cases h : openT ((tableB l).take i) with
  | none => rfl
  | some gs =>
    exfalso
    obtain ⟨h1, h2, h3, -, h5⟩ := open_some h
    have h6 : tableB gs.flatten ++ (tableB l).drop i = tableB l ++ [] := by rw [h5, List.take_append_drop, List.append_nil]
    obtain ⟨-, e⟩ := table_two h1 h3 (by omega) hs hq (by omega) h6
    have := congrArg List.length e
    rw [List.length_drop] at this
    simp only [List.length_nil] at this
    omega
theorem torn_more {l : List Ce} (hs : sortedB l = true) (hq : ∀ c ∈ l, c.q ≤ 9223372036854775807) (hl : l.length ≤ 4096) {m : List UInt8} (hm : m ≠ []) : openT (tableB l ++ m) = none := by
  cases h : openT (tableB l ++ m) with
  | none => rfl
  | some gs =>
    exfalso
    obtain ⟨h1, h2, h3, -, h5⟩ := open_some h
    have h6 : tableB gs.flatten ++ [] = tableB l ++ m := by rw [h5, List.append_nil]
    obtain ⟨-, e⟩ := table_two h1 h3 (by omega) hs hq (by omega) h6
    exact hm e.symm

/-! the laws of ranges -/
theorem range_join {l : List Ce} (h : Rise l) {a b c : List UInt8} (hab : Op.bytesLess b a = false) (hbc : Op.bytesLess c b = false) (hb : b ≠ []) (hc : c ≠ []) : rangeC l a b ++ rangeC l b c = rangeC l a c := by
  refine rise_unique (rise_app.2 ⟨rise_filter h _, rise_filter h _, ?_⟩) (rise_filter h _) fun x => ?_
  · intro x hx y hy
    have hx2 := (List.mem_filter.1 hx).2
    have hy2 := (List.mem_filter.1 hy).2
    unfold within at hx2 hy2
    simp only [Bool.and_eq_true, Bool.not_eq_true', Bool.or_eq_true, decide_eq_true_eq, hb, hc, false_or] at hx2 hy2
    unfold aheadC
    rw [bl_le_trans hy2.1 hx2.2]
    rfl
  · rw [List.mem_append]
    unfold rangeC
    rw [List.mem_filter, List.mem_filter, List.mem_filter]
    unfold within
    simp only [Bool.and_eq_true, Bool.not_eq_true', Bool.or_eq_true, decide_eq_true_eq, hb, hc, false_or]
    constructor
    · rintro (⟨h1, h2, h3⟩ | ⟨h1, h2, h3⟩)
      · exact ⟨h1, h2, bl_le_trans hbc h3⟩
      · refine ⟨h1, ?_, h3⟩
        cases e : Op.bytesLess x.k a with
        | false => rfl
        | true =>
          have := bl_le_trans hab e
          rw [h2] at this
          cases this
    · rintro ⟨h1, h2, h3⟩
      cases e : Op.bytesLess x.k b with
      | true => exact .inl ⟨h1, h2, rfl⟩
      | false => exact .inr ⟨h1, rfl, h3⟩
theorem range_halves {l : List Ce} (h : Rise l) {b : List UInt8} (hb : b ≠ []) : rangeC l [] b ++ rangeC l b [] = l := by
  refine rise_unique (rise_app.2 ⟨rise_filter h _, rise_filter h _, ?_⟩) h fun x => ?_
  · intro x hx y hy
    have hx2 := (List.mem_filter.1 hx).2
    have hy2 := (List.mem_filter.1 hy).2
    unfold within at hx2 hy2
    simp only [Bool.and_eq_true, Bool.not_eq_true', Bool.or_eq_true, decide_eq_true_eq, hb, false_or] at hx2 hy2
    unfold aheadC
    rw [bl_le_trans hy2.1 hx2.2]
    rfl
  · rw [List.mem_append]
    unfold rangeC
    rw [List.mem_filter, List.mem_filter]
    unfold within
    have hn : Op.bytesLess x.k [] = false := bl_nil x.k
    simp only [Bool.and_eq_true, Bool.not_eq_true', Bool.or_eq_true, decide_eq_true_eq, hb, false_or, hn, true_or, and_true, true_and]
    cases e : Op.bytesLess x.k b <;> simp
theorem find_some_key {l : List Ce} {key : List UInt8} {c : Ce} (h : findC l key = some c) : c ∈ l ∧ c.k = key := by
  unfold findC at h
  refine ⟨List.mem_of_find?_eq_some h, ?_⟩
  have := List.find?_some h
  simpa using this
end Spoor
namespace Spoor
open Go

def refL (text : List UInt8) (size : Nat) : Nat → Nat → Nat → Option (List Ce)
  | 0, _, _ => some []
  | n + 1, at', fr =>
    match getText (text.drop at') with
    | none => none
    | some (_, k1) =>
      match get (text.drop (at' + k1)) with
      | none => none
      | some (m, k2) => if size - fr < m then none else
        match decB ((text.drop fr).take m) with
        | none => none
        | some c => (refL text size n (at' + k1 + k2) (min (fr + m + 4) size)).map fun r => c ++ r
def finL (text : List UInt8) (L : List Ce) : Option (List Ce) := if sortedB L = true ∧ L.length ≤ 4096 ∧ tableB L = text then some L else none
def refOpen (text : List UInt8) : Option (List Ce) :=
  if text.length < 21 then none else
  match ofBig (text.drop (text.length - 21)) with
  | none => none
  | some size =>
    match ofBig (text.drop (text.length - 21 + 8)) with
    | none => none
    | some many =>
      if text.length - 21 < size ∨ 4096 < many then none else
      match get (text.drop size) with
      | none => finL text []
      | some (n, k) =>
        match refL text size n (size + k) 0 with
        | none => none
        | some L => finL text L
theorem refL_fits {text : List UInt8} {size : Nat} : ∀ {n at' fr : Nat} {L : List Ce}, refL text size n at' fr = some L → ∀ c ∈ L, c.q ≤ 9223372036854775807
  | 0, _, _, L, h => by
    simp only [refL, Option.some.injEq] at h
    subst h
    simp
  | n + 1, at', fr, L, h => by
    simp only [refL] at h
    cases e1 : getText (text.drop at') with
    | none => rw [e1] at h; simp at h
    | some r1 =>
      obtain ⟨key, k1⟩ := r1
      rw [e1] at h
      simp only at h
      cases e2 : get (text.drop (at' + k1)) with
      | none => rw [e2] at h; simp at h
      | some r2 =>
        obtain ⟨m, k2⟩ := r2
        rw [e2] at h
        simp only at h
        split at h
        · cases h
        · cases e3 : decB ((text.drop fr).take m) with
          | none => rw [e3] at h; simp at h
          | some c =>
            rw [e3] at h
            simp only at h
            cases e4 : refL text size n (at' + k1 + k2) (min (fr + m + 4) size) with
            | none => rw [e4] at h; simp at h
            | some r =>
              rw [e4] at h
              simp only [Option.map_some, Option.some.injEq] at h
              subst h
              intro d hd
              rcases List.mem_append.1 hd with hd | hd
              · exact (decB_fits e3).2 d hd
              · exact refL_fits e4 d hd
theorem refL_build {text : List UInt8} {size : Nat} : ∀ (gs : List (List Ce)) (at' fr : Nat) (p : Option Ce) (r1 r2 : List UInt8), okG gs → sortedFrom p gs.flatten = true → (∀ c ∈ gs.flatten, c.q ≤ 9223372036854775807) → text.drop at' = idxG gs ++ r1 → text.drop fr = dataG gs ++ r2 → fr + (dataG gs).length = size →
    refL text size gs.length at' fr = some gs.flatten
  | [], at', fr, p, r1, r2, _, _, _, _, _, _ => rfl
  | g :: gs, at', fr, p, r1, r2, hok, hs, hq, hi, hd, hsz => by
    obtain ⟨h0, h1, h2, h3⟩ := hok
    rw [List.flatten_cons, sortedFrom_app, Bool.and_eq_true] at hs
    have hsb := sortedFrom_none hs.1
    have hqg : ∀ c ∈ g, c.q ≤ 9223372036854775807 := fun c hc => hq c (by simp [hc])
    have hmg := sorted_may hsb
    have hkl : (keyG g).length ≤ 64 := by
      cases g with
      | nil => exact absurd rfl h0
      | cons c l => exact (may_of (hmg c (by simp))).2.1
    have hbl := blockB_len hsb hqg (by omega)
    simp only [idxG, List.flatMap_cons, idxOf, List.append_assoc] at hi
    simp only [dataG, List.flatMap_cons, dataOf, List.append_assoc, List.length_append, sumB_length] at hd hsz
    have e1 : getText (text.drop at') = some (keyG g, (putText (keyG g)).length) := by rw [hi]; exact getText_putText _ _ (by omega)
    have hi2 := drop_of' hi
    have e2 : get (text.drop (at' + (putText (keyG g)).length)) = some ((blockB g).length, (put (blockB g).length).length) := by rw [hi2]; exact get_put _ _ (by omega)
    have hi3 := drop_of' hi2
    have e3 : (text.drop fr).take (blockB g).length = blockB g := by rw [hd, List.take_left]
    have hd3 := drop_of' (drop_of' hd)
    rw [sumB_length] at hd3
    have ih := refL_build (text := text) (size := size) gs (at' + (putText (keyG g)).length + (put (blockB g).length).length) (fr + (blockB g).length + 4) (lastOr p g) r1 r2 h3 hs.2 (fun c hc => hq c (by simp at hc ⊢; right; exact hc)) hi3 hd3 (by unfold dataG; omega)
    rw [List.length_cons, refL, e1]
    simp only [e2, e3]
    rw [if_neg (by omega), decB_block hsb (by omega) hqg]
    simp only
    rw [Nat.min_eq_left (by omega), ih]
    rfl
theorem refOpen_eq (text : List UInt8) : refOpen text = (openT text).map List.flatten := by
  cases h : openT text with
  | some gs =>
    obtain ⟨h1, h2, h3, h4, h5⟩ := open_some h
    have hT := h5
    have ht := table_len h1 h3 (by omega)
    have hn := fours_length gs.flatten
    unfold tableB at hT
    rw [h4] at hT ht hn
    rw [h5] at ht
    have hok : okG gs := h4 ▸ fours_ok gs.flatten
    obtain ⟨D, hD⟩ : ∃ D, dataG gs = D := ⟨_, rfl⟩
    obtain ⟨I, hI⟩ : ∃ I, indexG gs = I := ⟨_, rfl⟩
    have hml : mark.length = 5 := rfl
    unfold tableG at hT
    rw [hD, hI] at hT
    rw [hD, hI] at ht
    have hlen : text.length = D.length + I.length + 25 := by
      rw [← hT]; simp only [List.length_append, sumB_length, big_length, hml]; omega
    have dS : text.drop (text.length - 21) = big D.length ++ (big gs.flatten.length ++ mark) := by
      have e : text = (D ++ (I ++ sumB I)) ++ (big D.length ++ (big gs.flatten.length ++ mark)) := by rw [← hT]; simp
      have e2 : text.length - 21 = (D ++ (I ++ sumB I)).length := by
        rw [hlen]; simp only [List.length_append, sumB_length]; omega
      rw [e2, e, List.drop_left]
    have dM : text.drop (text.length - 21 + 8) = big gs.flatten.length ++ mark := by
      have := drop_of' dS
      rwa [big_length] at this
    have dI : text.drop D.length = I ++ (sumB I ++ (big D.length ++ (big gs.flatten.length ++ mark))) := by
      rw [← hT, List.drop_left]
    unfold refOpen
    rw [if_neg (by omega), dS, ofBig_big _ _ (by omega)]
    simp only
    rw [dM, ofBig_big _ _ (by omega)]
    simp only
    have hI2 := hI
    unfold indexG at hI2
    have hil : (idxG gs).length ≤ I.length := by rw [← hI2]; simp
    rw [if_neg (by omega), dI, ← hI2, List.append_assoc, get_put _ _ (by omega)]
    simp only
    have hb := refL_build (text := text) (size := D.length) gs (D.length + (put gs.length).length) 0 none (sumB I ++ (big D.length ++ (big gs.flatten.length ++ mark))) (I ++ (sumB I ++ (big D.length ++ (big gs.flatten.length ++ mark)))) hok h1 h3
      (by
        rw [← hI2, List.append_assoc] at dI
        have := drop_of' dI
        rw [hI2] at this
        exact this)
      (by rw [List.drop_zero, ← hT, hD]) (by rw [hD]; omega)
    rw [hb]
    simp only [Option.map_some]
    unfold finL
    rw [if_pos ⟨h1, h2, h5⟩]
  | none =>
    cases h2 : refOpen text with
    | none => rfl
    | some L =>
      exfalso
      have key : ∀ L', (∀ c ∈ L', c.q ≤ 9223372036854775807) → finL text L' = some L → False := by
        intro L' hq hf
        unfold finL at hf
        split at hf
        · rename_i hc
          have := open_build hc.1 hc.2.1 hq
          rw [hc.2.2, h] at this
          cases this
        · cases hf
      unfold refOpen at h2
      split at h2
      · cases h2
      · split at h2
        · cases h2
        · split at h2
          · cases h2
          · split at h2
            · cases h2
            · split at h2
              · exact key [] (by simp) h2
              · split at h2
                · cases h2
                · rename_i hL
                  exact key _ (refL_fits hL) h2
theorem decB_len {s : List UInt8} {l : List Ce} (h : decB s = some l) : l.length ≤ s.length := by
  obtain ⟨h1, h2, -⟩ := decB_some h
  have key : ∀ (l : List Ce) (p : Option Ce), l.length ≤ (bodyB p l).length := by
    intro l
    induction l with
    | nil => intro p; simp
    | cons c l ih =>
      intro p
      have := ih (some c)
      have hp := put_length_pos (common (lastKey p) c.k)
      simp only [bodyB, cellBytes, List.length_append, List.length_cons]
      omega
  rw [← h2]
  have := key l none
  unfold blockB
  rw [List.length_append]
  omega
end Spoor
