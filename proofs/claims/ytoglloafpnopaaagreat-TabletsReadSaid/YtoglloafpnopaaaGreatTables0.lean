/- Plain facts, no program in sight: sums; a table's text; which texts are tables; ranges of a table's blocks; tables that are cut off, or go on; the laws of ranges; what the document's answer opens. -/
import Derived.Test.YtoglloafpnopaaaGreatTF
set_option linter.unusedSimpArgs false
set_option linter.unusedVariables false
namespace Spoor
open Go
def adStep (st : Nat × Nat) (c : UInt8) : Nat × Nat := ((st.1 + c.toNat) % 65521, (st.2 + (st.1 + c.toNat) % 65521) % 65521)
def adler (st : Nat × Nat) (l : List UInt8) : Nat × Nat := l.foldl adStep st
theorem adler_snoc (st : Nat × Nat) (l : List UInt8) (c : UInt8) : adler st (l ++ [c]) = adStep (adler st l) c := by simp [adler]
theorem adler_lt : ∀ (l : List UInt8) (st : Nat × Nat), st.1 < 65521 ∧ st.2 < 65521 → (adler st l).1 < 65521 ∧ (adler st l).2 < 65521
 | [], st, h => h
 | c :: l, st, _ => adler_lt l (adStep st c) ⟨Nat.mod_lt _ (by decide), Nat.mod_lt _ (by decide)⟩
def sumN (l : List UInt8) : Nat := (adler (1, 0) l).2 * 65536 + (adler (1, 0) l).1
theorem sumN_lt (l : List UInt8) : sumN l < 4294967296 := by
 have h := adler_lt l (1, 0) ⟨by decide, by decide⟩
 unfold sumN
 omega
def sum4 (n : Nat) : List UInt8 := [UInt8.ofNat (n / 16777216), UInt8.ofNat (n / 65536 % 256), UInt8.ofNat (n / 256 % 256), UInt8.ofNat (n % 256)]
def sumB (l : List UInt8) : List UInt8 := sum4 (sumN l)
theorem sumB_length (l : List UInt8) : (sumB l).length = 4 := rfl
def foursN : Nat → List Ce → List (List Ce)
 | 0, _ => []
 | n + 1, l => l.take 4 :: foursN n (l.drop 4)
def fours (l : List Ce) : List (List Ce) := foursN ((l.length + 3) / 4) l
theorem foursN_length : ∀ (n : Nat) (l : List Ce), (foursN n l).length = n
 | 0, _ => rfl
 | n + 1, l => by rw [foursN, List.length_cons, foursN_length n]
theorem fours_length (l : List Ce) : (fours l).length = (l.length + 3) / 4 := foursN_length _ _
theorem foursN_get : ∀ (n : Nat) (l : List Ce) (i : Nat), i < n → (foursN n l).getD i [] = (l.drop (i * 4)).take 4
 | 0, _, _, h => by omega
 | n + 1, l, 0, _ => by simp [foursN]
 | n + 1, l, i + 1, h => by
   rw [foursN, List.getD_cons_succ, foursN_get n _ i (by omega), List.drop_drop]
   congr 2
   omega
theorem fours_get (l : List Ce) (i : Nat) (h : i < (l.length + 3) / 4) : (fours l).getD i [] = (l.drop (i * 4)).take 4 := foursN_get _ _ _ h
def okG : List (List Ce) → Prop
 | [] => True
 | g :: gs => g ≠ [] ∧ g.length ≤ 4 ∧ (gs = [] ∨ g.length = 4) ∧ okG gs
theorem foursN_ok : ∀ (n : Nat) (l : List Ce), (l.length + 3) / 4 = n → okG (foursN n l) ∧ (foursN n l).flatten = l
 | 0, l, h => by
   have : l = [] := List.eq_nil_of_length_eq_zero (by omega)
   subst this
   exact ⟨trivial, rfl⟩
 | n + 1, l, h => by
   have hd : ((l.drop 4).length + 3) / 4 = n := by rw [List.length_drop]; omega
   obtain ⟨h1, h2⟩ := foursN_ok n (l.drop 4) hd
   refine ⟨⟨fun e => ?_, ?_, ?_, h1⟩, ?_⟩
   · have := congrArg List.length e
     rw [List.length_take] at this
     simp only [List.length_nil] at this
     omega
   · rw [List.length_take]; omega
   · rw [List.length_take]
     by_cases hn : n = 0
     · left; subst hn; rfl
     · right; omega
   · rw [foursN, List.flatten_cons, h2, List.take_append_drop]
theorem fours_ok (l : List Ce) : okG (fours l) := (foursN_ok _ l rfl).1
theorem fours_flat (l : List Ce) : (fours l).flatten = l := (foursN_ok _ l rfl).2
def keyG (g : List Ce) : List UInt8 := (g.headD Ce.zero).k
def mark : List UInt8 := [115, 112, 111, 111, 114]
def dataOf (g : List Ce) : List UInt8 := blockB g ++ sumB (blockB g)
def idxOf (g : List Ce) : List UInt8 := putText (keyG g) ++ put (blockB g).length
def dataG (gs : List (List Ce)) : List UInt8 := gs.flatMap dataOf
def idxG (gs : List (List Ce)) : List UInt8 := gs.flatMap idxOf
def indexG (gs : List (List Ce)) : List UInt8 := put gs.length ++ idxG gs
def tableG (gs : List (List Ce)) : List UInt8 := dataG gs ++ (indexG gs ++ (sumB (indexG gs) ++ (big (dataG gs).length ++ (big gs.flatten.length ++ mark))))
def tableB (l : List Ce) : List UInt8 := tableG (fours l)
def openL (data index : List UInt8) : Nat → Nat → Nat → Option Ce → Option (List (List Ce) × Nat × Nat)
 | 0, ia, da, _ => some ([], ia, da)
 | n + 1, ia, da, p =>
   match getText (index.drop ia) with
   | none => none
   | some (key, k1) =>
     match get (index.drop (ia + k1)) with
     | none => none
     | some (m, k2) =>
       if data.length < da + m + 4 then none else
       if (data.drop (da + m)).take 4 ≠ sumB ((data.drop da).take m) then none else
       match decB ((data.drop da).take m) with
       | none => none
       | some g => if g ≠ [] ∧ keyG g = key ∧ (n = 0 ∨ g.length = 4) ∧ g.length ≤ 4 ∧ sortedFrom p g = true then (openL data index n (ia + k1 + k2) (da + m + 4) (lastOr p g)).map fun r => (g :: r.1, r.2) else none
def openT (text : List UInt8) : Option (List (List Ce)) :=
 if text.length < 25 ∨ text.drop (text.length - 5) ≠ mark then none else
 match ofBig (text.drop (text.length - 25 + 4)) with
 | none => none
 | some size =>
   match ofBig (text.drop (text.length - 25 + 12)) with
   | none => none
   | some many =>
     if text.length - 25 < size then none else
     if sumB ((text.drop size).take (text.length - 25 - size)) ≠ (text.drop (text.length - 25)).take 4 then none else
     match get ((text.drop size).take (text.length - 25 - size)) with
     | none => none
     | some (n, k) =>
       match openL (text.take size) ((text.drop size).take (text.length - 25 - size)) n k 0 none with
       | none => none
       | some (gs, ia, da) => if ia = text.length - 25 - size ∧ da = size ∧ gs.flatten.length = many ∧ many ≤ 4096 then some gs else none
theorem decB_fits {s : List UInt8} {l : List Ce} (h : decB s = some l) : l.length ≤ 9223372036854775807 ∧ ∀ c ∈ l, c.q ≤ 9223372036854775807 := by
 have hr := (decB_some h).2.2
 unfold refDec at hr
 cases e : get s with
 | none => rw [e] at hr; simp at hr
 | some r =>
   obtain ⟨m, k⟩ := r
   rw [e] at hr
   simp only at hr
   cases e2 : refEach s m k none with
   | none => rw [e2] at hr; simp at hr
   | some r2 =>
     obtain ⟨l2, n2⟩ := r2
     rw [e2] at hr
     simp only at hr
     split at hr
     · cases hr
       obtain ⟨b1, b2⟩ := refEach_ints m k none _ n2 e2
       exact ⟨by have := (get_some e).2.2.2.1; omega, b2⟩
     · cases hr
theorem sortedFrom_none {p : Option Ce} : ∀ {l : List Ce}, sortedFrom p l = true → sortedB l = true
 | [], _ => rfl
 | c :: l, h => by
   simp only [sortedFrom, Bool.and_eq_true] at h
   simp only [sortedB, sortedFrom, Bool.and_eq_true]
   refine ⟨?_, h.2⟩
   have := okAfter_may h.1
   exact this
theorem lastOr_cons (p : Option Ce) : ∀ {g : List Ce}, g ≠ [] → ∀ q : Option Ce, lastOr p g = lastOr q g
 | [], h, _ => absurd rfl h
 | [c], _, _ => rfl
 | c :: d :: l, _, q => by
   have := lastOr_cons (some c) (g := d :: l) (by simp) (some c)
   show lastOr (some c) (d :: l) = lastOr (some c) (d :: l)
   rfl
theorem openL_build {data index : List UInt8} : ∀ (gs : List (List Ce)) (ia da : Nat) (p : Option Ce) (r1 r2 : List UInt8), okG gs → sortedFrom p gs.flatten = true → (∀ c ∈ gs.flatten, c.q ≤ 9223372036854775807) → index.drop ia = idxG gs ++ r1 → data.drop da = dataG gs ++ r2 → ia ≤ index.length → da ≤ data.length →
 openL data index gs.length ia da p = some (gs, ia + (idxG gs).length, da + (dataG gs).length)
 | [], ia, da, p, r1, r2, _, _, _, _, _, _, _ => by simp [openL, idxG, dataG]
 | g :: gs, ia, da, p, r1, r2, hok, hs, hq, hi, hd, hil, hdl => by
   obtain ⟨h0, h1, h2, h3⟩ := hok
   rw [List.flatten_cons, sortedFrom_app, Bool.and_eq_true] at hs
   have hsb := sortedFrom_none hs.1
   have hqg : ∀ c ∈ g, c.q ≤ 9223372036854775807 := fun c hc => hq c (by simp [hc])
   have hmg := sorted_may hsb
   have hkl : (keyG g).length ≤ 64 := by
    cases g with
    | nil => exact absurd rfl h0
    | cons c l => exact (may_of (hmg c (by simp))).2.1
   have hbl := blockB_len hsb hqg (by omega)
   simp only [idxG, List.flatMap_cons, idxOf, List.append_assoc] at hi
   simp only [dataG, List.flatMap_cons, dataOf, List.append_assoc] at hd
   have e1 : getText (index.drop ia) = some (keyG g, (putText (keyG g)).length) := by rw [hi]; exact getText_putText _ _ (by omega)
   have hi2 := drop_of' hi
   have e2 : get (index.drop (ia + (putText (keyG g)).length)) = some ((blockB g).length, (put (blockB g).length).length) := by rw [hi2]; exact get_put _ _ (by omega)
   have hi3 := drop_of' hi2
   have hdl2 := congrArg List.length hd
   simp only [List.length_drop, List.length_append, sumB_length] at hdl2
   have e3 : (data.drop da).take (blockB g).length = blockB g := by rw [hd, List.take_left]
   have hd2 := drop_of' hd
   have e4 : (data.drop (da + (blockB g).length)).take 4 = sumB (blockB g) := by
    rw [hd2]
    have := List.take_left (l₁ := sumB (blockB g)) (l₂ := gs.flatMap dataOf ++ r2)
    rwa [sumB_length] at this
   have hd3 := drop_of' hd2
   have hil2 := congrArg List.length hi
   simp only [List.length_drop, List.length_append] at hil2
   have ih := openL_build gs (ia + (putText (keyG g)).length + (put (blockB g).length).length) (da + (blockB g).length + 4) (lastOr p g) r1 r2 h3 hs.2 (fun c hc => hq c (by simp at hc ⊢; right; exact hc)) hi3 hd3 (by omega) (by omega)
   rw [List.length_cons, openL, e1]
   simp only [e2, e3, e4]
   rw [if_neg (by omega), if_neg (by simp), decB_block hsb (by omega) hqg]
   simp only
   rw [if_pos ⟨h0, trivial, by rcases h2 with rfl | h2; exact .inl rfl; exact .inr h2, h1, hs.1⟩, ih]
   simp only [Option.map_some, idxG, dataG, List.flatMap_cons, idxOf, dataOf, List.length_append, sumB_length, Option.some.injEq, Prod.mk.injEq, true_and]
   constructor <;> omega
theorem dataG_len : ∀ {gs : List (List Ce)} {p : Option Ce}, okG gs → sortedFrom p gs.flatten = true → (∀ c ∈ gs.flatten, c.q ≤ 9223372036854775807) → (dataG gs).length ≤ 925 * gs.length ∧ (idxG gs).length ≤ 82 * gs.length
 | [], _, _, _, _ => by simp [dataG, idxG]
 | g :: gs, p, hok, hs, hq => by
   obtain ⟨h0, h1, h2, h3⟩ := hok
   rw [List.flatten_cons, sortedFrom_app, Bool.and_eq_true] at hs
   have hsb := sortedFrom_none hs.1
   have hqg : ∀ c ∈ g, c.q ≤ 9223372036854775807 := fun c hc => hq c (by simp [hc])
   have hmg := sorted_may hsb
   have hkl : (keyG g).length ≤ 64 := by
    cases g with
    | nil => exact absurd rfl h0
    | cons c l => exact (may_of (hmg c (by simp))).2.1
   have hbl := blockB_len hsb hqg (by omega)
   obtain ⟨i1, i2⟩ := dataG_len h3 hs.2 (fun c hc => hq c (by simp at hc ⊢; right; exact hc))
   have p1 := put_length9 (keyG g).length (by omega)
   have p2 := put_length9 (blockB g).length (by omega)
   simp only [dataG, idxG, List.flatMap_cons, dataOf, idxOf, putText, List.length_append, sumB_length, List.length_cons] at *
   omega
theorem table_len {l : List Ce} (hs : sortedB l = true) (hq : ∀ c ∈ l, c.q ≤ 9223372036854775807) (hl : l.length ≤ 100000) : (dataG (fours l)).length ≤ 925 * (l.length + 3) ∧ (indexG (fours l)).length ≤ 9 + 82 * (l.length + 3) ∧ (tableB l).length ≤ 40 + 1007 * (l.length + 3) := by
 have h := dataG_len (fours_ok l) (by rw [fours_flat]; exact hs) (by rw [fours_flat]; exact hq)
 have hn := fours_length l
 have p := put_length9 (fours l).length (by omega)
 unfold tableB tableG indexG
 simp only [List.length_append, sumB_length, big_length]
 have : mark.length = 5 := rfl
 omega
theorem open_build {l : List Ce} (hs : sortedB l = true) (hl : l.length ≤ 4096) (hq : ∀ c ∈ l, c.q ≤ 9223372036854775807) : openT (tableB l) = some (fours l) := by
 have h := table_len hs hq (by omega)
 have hn := fours_length l
 have hfl := fours_flat l
 generalize hG : fours l = gs at *
 have hok : okG gs := hG ▸ fours_ok l
 have hml : mark.length = 5 := rfl
 have hT : tableB l = dataG gs ++ (indexG gs ++ (sumB (indexG gs) ++ (big (dataG gs).length ++ (big gs.flatten.length ++ mark)))) := by unfold tableB tableG; rw [hG]
 obtain ⟨D, hD⟩ : ∃ D, dataG gs = D := ⟨_, rfl⟩
 obtain ⟨I, hI⟩ : ∃ I, indexG gs = I := ⟨_, rfl⟩
 rw [hD, hI] at hT
 rw [hD, hI] at h
 have hlen : (tableB l).length = D.length + I.length + 25 := by
  rw [hT]; simp only [List.length_append, sumB_length, big_length, hml]; omega
 have d5 : (tableB l).drop ((tableB l).length - 5) = mark := by
  have e : (tableB l) = (D ++ (I ++ (sumB I ++ (big D.length ++ big gs.flatten.length)))) ++ mark := by rw [hT]; simp
  have e2 : (tableB l).length - 5 = (D ++ (I ++ (sumB I ++ (big D.length ++ big gs.flatten.length)))).length := by
   rw [hlen]; simp only [List.length_append, sumB_length, big_length]; omega
  rw [e2, e, List.drop_left]
 have dS : (tableB l).drop ((tableB l).length - 25 + 4) = big D.length ++ (big gs.flatten.length ++ mark) := by
  have e : (tableB l) = (D ++ (I ++ sumB I)) ++ (big D.length ++ (big gs.flatten.length ++ mark)) := by rw [hT]; simp
  have e2 : (tableB l).length - 25 + 4 = (D ++ (I ++ sumB I)).length := by
   rw [hlen]; simp only [List.length_append, sumB_length]; omega
  rw [e2, e, List.drop_left]
 have dM : (tableB l).drop ((tableB l).length - 25 + 12) = big gs.flatten.length ++ mark := by
  have e : (tableB l) = (D ++ (I ++ (sumB I ++ big D.length))) ++ (big gs.flatten.length ++ mark) := by rw [hT]; simp
  have e2 : (tableB l).length - 25 + 12 = (D ++ (I ++ (sumB I ++ big D.length))).length := by
   rw [hlen]; simp only [List.length_append, sumB_length, big_length]; omega
  rw [e2, e, List.drop_left]
 have dE : ((tableB l).drop ((tableB l).length - 25)).take 4 = sumB I := by
  have e : (tableB l) = (D ++ I) ++ (sumB I ++ (big D.length ++ (big gs.flatten.length ++ mark))) := by rw [hT]; simp
  have e2 : (tableB l).length - 25 = (D ++ I).length := by rw [hlen]; simp
  rw [e2, e, List.drop_left]
  have := List.take_left (l₁ := sumB I) (l₂ := big D.length ++ (big gs.flatten.length ++ mark))
  rwa [sumB_length] at this
 have dI : ((tableB l).drop D.length).take ((tableB l).length - 25 - D.length) = I := by
  rw [hlen, show D.length + I.length + 25 - 25 - D.length = I.length by omega, hT, List.drop_left, List.take_left]
 have dD : (tableB l).take D.length = D := by rw [hT, List.take_left]
 unfold openT
 rw [if_neg (by rw [d5]; simp; omega), dS, ofBig_big _ _ (by omega)]
 simp only
 rw [dM, ofBig_big _ _ (by rw [hfl]; omega)]
 simp only
 rw [if_neg (by omega), dI, dE, if_neg (by simp), dD]
 have hg : get I = some (gs.length, (put gs.length).length) := by
  rw [← hI]; exact get_put _ _ (by omega)
 rw [hg]
 have hb := openL_build (data := D) (index := I) gs (put gs.length).length 0 none [] [] hok (by rw [hfl]; exact hs) (by rw [hfl]; exact hq)
  (by rw [← hI]; unfold indexG; rw [List.drop_left]; simp) (by rw [← hD]; simp) (by rw [← hI]; unfold indexG; simp) (Nat.zero_le _)
 simp only [hb]
 have hil : (put gs.length).length + (idxG gs).length = I.length := by rw [← hI]; unfold indexG; simp
 rw [if_pos]
 refine ⟨by rw [hil]; omega, by rw [hD]; omega, trivial, by rw [hfl]; exact hl⟩
theorem keyG_head {g : List Ce} (h : g ≠ []) : ∃ c l, g = c :: l ∧ keyG g = c.k := by
 cases g with
 | nil => exact absurd rfl h
 | cons c l => exact ⟨c, l, rfl, rfl⟩
theorem getD_mem' {gs : List (List Ce)} {k : Nat} (h : k < gs.length) : gs.getD k [] ∈ gs := by simp [List.getD, h]
theorem flat_at {gs : List (List Ce)} {k : Nat} (h : k < gs.length) : gs.flatten = (gs.take k).flatten ++ (gs.getD k [] ++ (gs.drop (k + 1)).flatten) := by
 have e : gs = gs.take k ++ (gs.getD k [] :: gs.drop (k + 1)) := by
  have h1 : gs.drop k = gs.getD k [] :: gs.drop (k + 1) := by
   rw [List.drop_eq_getElem_cons h]
   simp [List.getD, h]
  rw [← h1, List.take_append_drop]
 conv => lhs; rw [e, List.flatten_append, List.flatten_cons]
theorem range_start {gs : List (List Ce)} (hr : Rise gs.flatten) (hne : ∀ g ∈ gs, g ≠ []) {k : Nat} {x y : List UInt8} (hk : k = 0 ∨ (k < gs.length ∧ Op.bytesLess (keyG (gs.getD k [])) x = true)) : rangeC (gs.take k).flatten x y = [] := by
 rcases hk with rfl | ⟨hk, hx⟩
 · simp [rangeC]
 · rw [flat_at hk] at hr
   obtain ⟨c, l, e, ek⟩ := keyG_head (hne _ (getD_mem' hk))
   rw [ek] at hx
   refine List.filter_eq_nil_iff.2 fun d hd => ?_
   have h1 := (List.pairwise_append.1 hr).2.2 d hd c (by rw [e]; simp)
   have h2 := key_mono h1 hx
   unfold within
   simp [h2]
theorem range_stop {gs : List (List Ce)} (hr : Rise gs.flatten) (hne : ∀ g ∈ gs, g ≠ []) {k : Nat} {x y : List UInt8} (hk : k < gs.length) (hy : y ≠ []) (h : Op.bytesLess (keyG (gs.getD k [])) y = false) : rangeC (gs.take k).flatten x y = rangeC gs.flatten x y := by
 conv => rhs; rw [flat_at hk, rangeC_app]
 rw [flat_at hk] at hr
 obtain ⟨c, l, e, ek⟩ := keyG_head (hne _ (getD_mem' hk))
 rw [ek] at h
 have hr2 := (List.pairwise_append.1 hr).2.1
 rw [e, List.cons_append] at hr2
 have hz : rangeC (gs.getD k [] ++ (gs.drop (k + 1)).flatten) x y = [] := by
  refine List.filter_eq_nil_iff.2 fun d hd => ?_
  have h3 : Op.bytesLess d.k y = false := by
   rw [e, List.cons_append] at hd
   rcases List.mem_cons.1 hd with rfl | hd
   · exact h
   · have h1 := (List.pairwise_cons.1 hr2).1 d hd
     cases f : Op.bytesLess d.k y with
     | false => rfl
     | true => rw [key_mono h1 f] at h; cases h
  unfold within
  simp [h3, hy]
 rw [hz, List.append_nil]
def BlkOk (g : List Ce) : Prop := g ≠ [] ∧ sortedB g = true ∧ g.length ≤ 9223372036854775807 ∧ ∀ c ∈ g, c.q ≤ 9223372036854775807
theorem fours_blk {l : List Ce} (hs : sortedB l = true) (hq : ∀ c ∈ l, c.q ≤ 9223372036854775807) : ∀ g ∈ fours l, BlkOk g := by
 have key : ∀ (gs : List (List Ce)) (p : Option Ce), okG gs → sortedFrom p gs.flatten = true → (∀ c ∈ gs.flatten, c.q ≤ 9223372036854775807) → ∀ g ∈ gs, BlkOk g := by
  intro gs
  induction gs with
  | nil => intro p _ _ _ g hg; simp at hg
  | cons g gs ih =>
    intro p hok hs hq x hx
    obtain ⟨h0, h1, h2, h3⟩ := hok
    rw [List.flatten_cons, sortedFrom_app, Bool.and_eq_true] at hs
    rcases List.mem_cons.1 hx with rfl | hx
    · exact ⟨h0, sortedFrom_none hs.1, by omega, fun c hc => hq c (by simp [hc])⟩
    · exact ih _ h3 hs.2 (fun c hc => hq c (by simp at hc ⊢; right; exact hc)) x hx
 exact key _ none (fours_ok l) (by rw [fours_flat]; exact hs) (by rw [fours_flat]; exact hq)
def refL (text : List UInt8) (size : Nat) : Nat → Nat → Nat → Option (List Ce)
 | 0, _, _ => some []
 | n + 1, at', fr =>
   match getText (text.drop at') with
   | none => none
   | some (_, k1) =>
     match get (text.drop (at' + k1)) with
     | none => none
     | some (m, k2) => if size - fr < m then none else
       match decB ((text.drop fr).take m) with
       | none => none
       | some c => (refL text size n (at' + k1 + k2) (min (fr + m + 4) size)).map fun r => c ++ r
def finL (text : List UInt8) (L : List Ce) : Option (List Ce) := if sortedB L = true ∧ L.length ≤ 4096 ∧ tableB L = text then some L else none
theorem decB_len {s : List UInt8} {l : List Ce} (h : decB s = some l) : l.length ≤ s.length := by
 obtain ⟨h1, h2, -⟩ := decB_some h
 have key : ∀ (l : List Ce) (p : Option Ce), l.length ≤ (bodyB p l).length := by
  intro l
  induction l with
  | nil => intro p; simp
  | cons c l ih =>
    intro p
    have := ih (some c)
    have hp := put_length_pos (common (lastKey p) c.k)
    simp only [bodyB, cellBytes, List.length_append, List.length_cons]
    omega
 rw [← h2]
 have := key l none
 unfold blockB
 rw [List.length_append]
 omega
end Spoor
