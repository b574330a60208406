/- strings.Builder at this translation: a text more, and the whole text. The walks go as the kit's own contracts do; copyCheck's panic is no part of them. Plain facts, no program in sight: cells, their order, their bytes, and how these are read. The walks on cells: which may be, their order, whether they are sorted. Slices of cells in memory; the walks on whether they are sorted. The walks: whether a cell may be, how far two texts are alike; the document's words for both. A list of cells as an argument, opened. Rows of bytes that a call owns and of which no cell is frozen, whatever their frozen range: what '[]byte(s)' lays, and appending a string's bytes to it. Over any program; no condition but the lengths' bounds. -/
import Derived.Test.YtoglloafpnopaaaGreatTA
import Derived.Test.YtoglloafpnopaaaGreatTB
import Derived.Lib.Builder
import Derived.Lib.AppendStr
import Derived.Test.YtoglloafpnopaaaGreatShelf
import Derived.Deep.MidRow
import Derived.Lib.Hide
import Derived.Laws.Cover1
import Derived.BigQuiet
import Derived.Deep.QuietTactic
import Derived.Lib.FrozenHead
import Derived.Laws.IdiomStrings
import Derived.Below
set_option linter.unusedSimpArgs false
set_option linter.unusedVariables false
namespace Go.Proofs.YtoglloafpnopaaaGreat
set_option maxRecDepth 16000
open Go.RowKit Spoor
theorem builder_size : (Tryz.prog.info? 75).map (·.size) = some 2 := by kernel_rfl
theorem builder_lies : liesAt Tryz.prog Tryz.prog.depth 75 (2 / Tryz.prog.cellsOf 75) 0 75 1 = true := by kernel_rfl
def Bld (B b : Nat) (l : List UInt8) (w : World) : Prop := Lib.IsBuilder 75 5 B b (Lib.byteCells l) w
set_option maxRecDepth 100000 in
theorem copyCheck_used (b : Nat) (w : World) (h0 : w.cell? ⟨b, 0, none⟩ = some (.pointer (some ⟨b, 0, none⟩))) :
 Calls Tryz.prog 65 #[.pointer (some ⟨b, 0, none⟩)] w fun e w' => e = .returned (.tuple #[]) ∧ w = w' := by
 obtain ⟨j, hj, _⟩ := Option.map_eq_some_iff.1 builder_size
 have hne := Lib.run_neq_ptr_same w ⟨b, 0, none⟩ Tryz.underlying72 hj
 go_enter Tryz.func65, Tryz.ntmps65
 go_wp2
 go_end0
 exact ⟨rfl, rfl⟩
set_option maxRecDepth 100000 in
theorem copyCheck_fresh (b : Nat) (w : World) (h0 : w.cell? ⟨b, 0, none⟩ = some (.pointer none)) (hsh : w.shape? b = some (75, 2)) (hfz : w.frozen? ⟨b, 0, none⟩ = false) :
 Calls Tryz.prog 65 #[.pointer (some ⟨b, 0, none⟩)] w fun e w' => e = .returned (.tuple #[]) ∧ w' = w.setCell ⟨b, 0, none⟩ (.pointer (some ⟨b, 0, none⟩)) := by
 obtain ⟨j, hj, hjs⟩ := Option.map_eq_some_iff.1 builder_size
 have htu := Lib.run_to_unsafe w ⟨b, 0, none⟩ Tryz.underlying72 Tryz.underlying157 hj (by rw [hjs]; decide) hsh (Nat.zero_lt_succ 1)
 have hfu := Lib.run_from_unsafe w ⟨b, 0, none⟩ Tryz.underlying157 Tryz.underlying72 hj hsh builder_lies
 have hcf : ∀ (x : Value), (callFunc 89 #[x]).run Tryz.prog w = .ok (.value x) w := fun x => by
  rw [run_callFunc_extern Tryz.func89 (by kernel_rfl) (by kernel_rfl) (by kernel_rfl) (e := Extern.AbiNoEscape.same) (by kernel_rfl), Lib.run_noEscape]
  rfl
 go_enter Tryz.func65, Tryz.ntmps65
 go_wp2
 go_end0
 exact ⟨rfl, rfl⟩
theorem byteCells_append (l : List UInt8) (s : ByteArray) : Lib.byteCells l ++ Lib.strCells s = Lib.byteCells (l ++ s.data.toList) := by
 simp [Lib.byteCells, Lib.strCells]
end Go.Proofs.YtoglloafpnopaaaGreat
namespace Spoor
open Go
structure Ce where
 k : List UInt8
 q : Int
 v : List UInt8
 deriving DecidableEq
def Ce.zero : Ce := ⟨[], 0, []⟩
def Ce.may (c : Ce) : Bool := decide (1 ≤ c.k.length ∧ c.k.length ≤ 64) && decide (0 ≤ c.q) && decide (c.v.length ≤ 128)
def aheadC (a b : Ce) : Bool := Op.bytesLess a.k b.k || (a.k == b.k && decide (b.q < a.q))
def okAfter : Option Ce → Ce → Bool
 | none, c => c.may
 | some a, c => c.may && aheadC a c
def sortedFrom : Option Ce → List Ce → Bool
 | _, [] => true
 | p, c :: l => okAfter p c && sortedFrom (some c) l
def sortedB (l : List Ce) : Bool := sortedFrom none l
def lastOr : Option Ce → List Ce → Option Ce
 | p, [] => p
 | _, c :: l => lastOr (some c) l
theorem lastOr_snoc (c : Ce) : ∀ (l : List Ce) (p : Option Ce), lastOr p (l ++ [c]) = some c
 | [], _ => rfl
 | d :: l, p => by rw [List.cons_append]; exact lastOr_snoc c l (some d)
theorem sortedFrom_snoc (c : Ce) : ∀ (l : List Ce) (p : Option Ce), sortedFrom p (l ++ [c]) = (sortedFrom p l && okAfter (lastOr p l) c)
 | [], p => by simp [sortedFrom, lastOr]
 | d :: l, p => by
   rw [List.cons_append]
   simp only [sortedFrom, lastOr, sortedFrom_snoc c l (some d), Bool.and_assoc]
theorem sortedFrom_app (m : List Ce) : ∀ (l : List Ce) (p : Option Ce), sortedFrom p (l ++ m) = (sortedFrom p l && sortedFrom (lastOr p l) m)
 | [], p => by simp [sortedFrom, lastOr]
 | d :: l, p => by
   rw [List.cons_append]
   simp only [sortedFrom, lastOr, sortedFrom_app m l (some d), Bool.and_assoc]
theorem take_ce (l : List Ce) (k : Nat) (h : k < l.length) : l.take (k + 1) = l.take k ++ [l.getD k Ce.zero] := by
 rw [List.take_succ_eq_append_getElem h]
 simp [List.getD, h]
theorem lastOr_take (l : List Ce) (p : Option Ce) (k : Nat) (h : k < l.length) : lastOr p (l.take (k + 1)) = some (l.getD k Ce.zero) := by rw [take_ce l k h, lastOr_snoc]
def prevOf (l : List Ce) (k : Nat) : Option Ce := if k = 0 then none else some (l.getD (k - 1) Ce.zero)
theorem lastOr_prev (l : List Ce) (k : Nat) (h : k ≤ l.length) : lastOr none (l.take k) = prevOf l k := by
 cases k with
 | zero => rfl
 | succ k => rw [lastOr_take l none k (by omega)]; simp [prevOf]
theorem sortedB_step (l : List Ce) (k : Nat) (h : k < l.length) : sortedB (l.take (k + 1)) = (sortedB (l.take k) && okAfter (prevOf l k) (l.getD k Ce.zero)) := by
 rw [take_ce l k h, sortedB, sortedFrom_snoc, lastOr_prev l k (by omega)]; rfl
theorem sortedB_take (l : List Ce) (k : Nat) (h : sortedB l = true) : sortedB (l.take k) = true := by
 rw [← List.take_append_drop k l, sortedB, sortedFrom_app, Bool.and_eq_true] at h
 exact h.1
theorem sortedB_no (l : List Ce) (k : Nat) (h : sortedB (l.take k) = false) : sortedB l = false := by
 cases e : sortedB l with
 | false => rfl
 | true => rw [sortedB_take l k e] at h; cases h
def common : List UInt8 → List UInt8 → Nat
 | a :: l, b :: m => if a = b then common l m + 1 else 0
 | _, _ => 0
def lastKey : Option Ce → List UInt8
 | none => []
 | some c => c.k
def cellBytes (last : List UInt8) (c : Ce) : List UInt8 := put (common last c.k) ++ (putText (c.k.drop (common last c.k)) ++ (put c.q.toNat ++ putText c.v))
def bodyB : Option Ce → List Ce → List UInt8
 | _, [] => []
 | p, c :: l => cellBytes (lastKey p) c ++ bodyB (some c) l
def blockB (l : List Ce) : List UInt8 := put l.length ++ bodyB none l
def encB (l : List Ce) : Option (List UInt8) := if sortedB l = true then some (blockB l) else none
theorem bodyB_snoc (c : Ce) : ∀ (l : List Ce) (p : Option Ce), bodyB p (l ++ [c]) = bodyB p l ++ cellBytes (lastKey (lastOr p l)) c
 | [], p => by simp [bodyB, lastOr]
 | d :: l, p => by
   rw [List.cons_append]
   simp only [bodyB, lastOr, bodyB_snoc c l (some d), List.append_assoc]
theorem bodyB_take (l : List Ce) (k : Nat) (h : k < l.length) : bodyB none (l.take (k + 1)) = bodyB none (l.take k) ++ cellBytes (lastKey (prevOf l k)) (l.getD k Ce.zero) := by
 rw [take_ce l k h, bodyB_snoc, lastOr_prev l k (by omega)]
theorem bodyB_app (m : List Ce) : ∀ (l : List Ce) (p : Option Ce), bodyB p (l ++ m) = bodyB p l ++ bodyB (lastOr p l) m
 | [], p => by simp [bodyB, lastOr]
 | d :: l, p => by
   rw [List.cons_append]
   simp only [bodyB, lastOr, bodyB_app m l (some d), List.append_assoc]
theorem bodyB_take_le (l : List Ce) (k : Nat) : (bodyB none (l.take k)).length ≤ (bodyB none l).length := by
 have := bodyB_app (l.drop k) (l.take k) none
 rw [List.take_append_drop] at this
 rw [this, List.length_append]
 omega
theorem okAfter_may {p : Option Ce} {c : Ce} (h : okAfter p c = true) : c.may = true := by
 cases p with
 | none => exact h
 | some a => simp only [okAfter, Bool.and_eq_true] at h; exact h.1
theorem sorted_may : ∀ {l : List Ce} {p : Option Ce}, sortedFrom p l = true → ∀ c ∈ l, c.may = true
 | [], _, _, c, hc => by cases hc
 | d :: l, p, h, c, hc => by
   simp only [sortedFrom, Bool.and_eq_true] at h
   rcases List.mem_cons.1 hc with rfl | hc
   · exact okAfter_may h.1
   · exact sorted_may h.2 c hc
theorem may_of {c : Ce} (h : c.may = true) : 1 ≤ c.k.length ∧ c.k.length ≤ 64 ∧ 0 ≤ c.q ∧ c.v.length ≤ 128 := by
 unfold Ce.may at h
 simp only [Bool.and_eq_true, decide_eq_true_eq] at h
 exact ⟨h.1.1.1, h.1.1.2, h.1.2, h.2⟩
theorem common_le : ∀ (a b : List UInt8), common a b ≤ a.length ∧ common a b ≤ b.length
 | a :: l, b :: m => by
   have := common_le l m
   simp only [common]
   split <;> simp <;> omega
 | [], _ => by simp [common]
 | _ :: _, [] => by simp [common]
theorem common_take : ∀ (a b : List UInt8), a.take (common a b) = b.take (common a b)
 | a :: l, b :: m => by
   simp only [common]
   split
   · rename_i e; subst e; simp [common_take l m]
   · simp
 | [], _ => by simp [common]
 | _ :: _, [] => by simp [common]
theorem common_head : ∀ (a b : List UInt8), common a b < a.length → common a b < b.length → a.getD (common a b) 0 ≠ b.getD (common a b) 0
 | a :: l, b :: m => by
   simp only [common]
   split
   · intro h1 h2
     have := common_head l m (by simpa using h1) (by simpa using h2)
     simpa using this
   · intro _ _; simpa
 | [], _ => by simp
 | _ :: _, [] => by simp
theorem common_of : ∀ (n : Nat) (a b : List UInt8), n ≤ a.length → n ≤ b.length → a.take n = b.take n → (n < a.length → n < b.length → a.getD n 0 ≠ b.getD n 0) → common a b = n
 | 0, a, b, _, _, _, h => by
   match a, b, h with
   | [], _, _ => simp [common]
   | _ :: _, [], _ => simp [common]
   | x :: a, y :: b, h =>
     have : x ≠ y := by simpa using h
     simp [common, this]
 | n + 1, a, b, h1, h2, h3, h => by
   match a, b, h1, h2, h3, h with
   | x :: a, y :: b, h1, h2, h3, h =>
     simp only [List.take_succ_cons, List.cons.injEq] at h3
     obtain ⟨rfl, h3⟩ := h3
     have := common_of n a b (by simpa using h1) (by simpa using h2) h3 (fun p q => by simpa using h (by simpa using p) (by simpa using q))
     simp [common, this]
def cellAt (strict : Bool) (s : List UInt8) (at' : Nat) (last : List UInt8) : Option (Ce × Nat) :=
 match get (s.drop at') with
 | none => none
 | some (n, k1) => if last.length < n then none else
   match getText (s.drop (at' + k1)) with
   | none => none
   | some (rest, k2) => if strict = true ∧ n < last.length ∧ rest ≠ [] ∧ rest.getD 0 0 = last.getD n 0 then none else
     match get (s.drop (at' + k1 + k2)) with
     | none => none
     | some (q, k3) =>
       match getText (s.drop (at' + k1 + k2 + k3)) with
       | none => none
       | some (v, k4) => some (⟨last.take n ++ rest, (q : Int), v⟩, at' + k1 + k2 + k3 + k4)
def eachB (s : List UInt8) : Nat → Nat → Option Ce → Option (List Ce × Nat)
 | 0, at', _ => some ([], at')
 | m + 1, at', p =>
   match cellAt true s at' (lastKey p) with
   | none => none
   | some (c, nx) => if okAfter p c = true then (eachB s m nx (some c)).map fun r => (c :: r.1, r.2) else none
def refEach (s : List UInt8) : Nat → Nat → Option Ce → Option (List Ce × Nat)
 | 0, at', _ => some ([], at')
 | m + 1, at', p =>
   match cellAt false s at' (lastKey p) with
   | none => none
   | some (c, nx) => (refEach s m nx (some c)).map fun r => (c :: r.1, r.2)
def finB (s : List UInt8) (acc : List Ce) : Option (List Ce × Nat) → Option (List Ce)
 | none => none
 | some (l, at') => if at' = s.length then some (acc ++ l) else none
def decB (s : List UInt8) : Option (List Ce) :=
 match get s with
 | none => none
 | some (m, k) => finB s [] (eachB s m k none)
def refDec (s : List UInt8) : Option (List Ce) :=
 match get s with
 | none => none
 | some (m, k) =>
   match refEach s m k none with
   | none => none
   | some (l, _) => if encB l = some s then some l else none
theorem bk_get {l : List UInt8} {p n k : Nat} (h : get (l.drop p) = some (n, k)) : p + k ≤ l.length ∧ n ≤ 9223372036854775807 ∧ l.take (p + k) = l.take p ++ put n := by
 obtain ⟨h1, _, h3, h4, h5⟩ := get_some h
 have hp : k ≤ l.length - p := by simpa using h3
 have hp1 : p + k ≤ l.length := by omega
 refine ⟨hp1, h4, ?_⟩
 rw [List.take_add, h5]
theorem bk_getText {l t : List UInt8} {p k : Nat} (h : getText (l.drop p) = some (t, k)) (hp : p ≤ l.length) : p + k ≤ l.length ∧ l.take (p + k) = l.take p ++ putText t := by
 obtain ⟨h1, _, h3, _⟩ := getText_some h
 refine ⟨by have : k ≤ l.length - p := by simpa using h1
            omega, ?_⟩
 rw [List.take_add, h3]
theorem cellAt_some {b : Bool} {s last : List UInt8} {at' nx : Nat} {c : Ce} (h : cellAt b s at' last = some (c, nx)) :
 nx ≤ s.length ∧ at' < nx ∧ (b = true → s.take nx = s.take at' ++ cellBytes last c) ∧ cellAt false s at' last = some (c, nx) ∧ c.k.length + at' ≤ last.length + nx ∧ c.v.length ≤ s.length ∧ 0 ≤ c.q ∧ c.q ≤ 9223372036854775807 := by
 unfold cellAt at h
 cases e1 : get (s.drop at') with
 | none => rw [e1] at h; simp at h
 | some r1 =>
   obtain ⟨n, k1⟩ := r1
   rw [e1] at h
   simp only at h
   split at h
   · cases h
   · rename_i hn
     cases e2 : getText (s.drop (at' + k1)) with
     | none => rw [e2] at h; simp at h
     | some r2 =>
       obtain ⟨rest, k2⟩ := r2
       rw [e2] at h
       simp only at h
       split at h
       · cases h
       · rename_i hs
         cases e3 : get (s.drop (at' + k1 + k2)) with
         | none => rw [e3] at h; simp at h
         | some r3 =>
           obtain ⟨q, k3⟩ := r3
           rw [e3] at h
           simp only at h
           cases e4 : getText (s.drop (at' + k1 + k2 + k3)) with
           | none => rw [e4] at h; simp at h
           | some r4 =>
             obtain ⟨v, k4⟩ := r4
             rw [e4] at h
             simp only [Option.some.injEq, Prod.mk.injEq] at h
             obtain ⟨rfl, rfl⟩ := h
             obtain ⟨p1, n1, t1⟩ := bk_get e1
             obtain ⟨p2, t2⟩ := bk_getText e2 p1
             obtain ⟨p3, n3, t3⟩ := bk_get e3
             obtain ⟨p4, t4⟩ := bk_getText e4 p3
             have g1 := get_some e1
             have g2 := getText_some e2
             have g4 := getText_some e4
             refine ⟨p4, by omega, ?_, ?_, ?_, ?_, by simp, by simp; omega⟩
             · intro hb
               have hc : common last (last.take n ++ rest) = n := by
                have hl : (last.take n).length = n := by rw [List.length_take]; omega
                refine common_of n _ _ (by omega) (by rw [List.length_append, hl]; omega) ?_ ?_
                · rw [List.take_append_of_le_length (by omega), List.take_take, Nat.min_self]
                · intro a1 a2 e
                  apply hs
                  refine ⟨hb, a1, ?_, ?_⟩
                  · intro er; rw [er, List.append_nil, hl] at a2; omega
                  · rw [e]; simp only [List.getD]; rw [List.getElem?_append_right (by omega), hl, Nat.sub_self]
               have hd : (last.take n ++ rest).drop n = rest := by
                have hl : (last.take n).length = n := by rw [List.length_take]; omega
                rw [List.drop_append_of_le_length (by omega), List.drop_of_length_le (by omega), List.nil_append]
               unfold cellBytes
               simp only [hc, hd, Int.toNat_natCast]
               rw [t4, t3, t2, t1]
               simp
             · unfold cellAt
               rw [e1]
               simp only [if_neg hn, e2, e3, e4]
               simp
             · simp only [List.length_append, List.length_take]
               have := g2.2.1
               omega
             · have := g4.2.1
               have := g4.1
               simp only [List.length_drop] at this
               simp only
               omega
theorem cellBytes_len {last : List UInt8} {c : Ce} (hm : c.may = true) (hq : c.q ≤ 9223372036854775807) : (cellBytes last c).length ≤ 228 := by
 obtain ⟨h1, h2, h3, h4⟩ := may_of hm
 obtain ⟨c1, c2⟩ := common_le last c.k
 have a1 := put_length9 (common last c.k) (by omega)
 have a2 := put_length9 (c.k.drop (common last c.k)).length (by rw [List.length_drop]; omega)
 have a3 := put_length9 c.q.toNat (by omega)
 have a4 := put_length9 c.v.length (by omega)
 unfold cellBytes putText
 simp only [List.length_append]
 rw [List.length_drop] at a2 ⊢
 omega
theorem bodyB_len : ∀ {l : List Ce} {p : Option Ce}, sortedFrom p l = true → (∀ c ∈ l, c.q ≤ 9223372036854775807) → (bodyB p l).length ≤ 228 * l.length
 | [], _, _, _ => by simp [bodyB]
 | c :: l, p, h, hq => by
   have hm := sorted_may h c (by simp)
   simp only [sortedFrom, Bool.and_eq_true] at h
   have h1 := cellBytes_len (last := lastKey p) hm (hq c (by simp))
   have h2 := bodyB_len h.2 (fun d hd => hq d (by simp [hd]))
   simp only [bodyB, List.length_append, List.length_cons]
   omega
theorem blockB_len {l : List Ce} (h : sortedB l = true) (hq : ∀ c ∈ l, c.q ≤ 9223372036854775807) (hl : l.length ≤ 9223372036854775807) : (blockB l).length ≤ 9 + 228 * l.length := by
 have h1 := bodyB_len h hq
 have h2 := put_length9 l.length hl
 unfold blockB
 rw [List.length_append]
 omega
theorem drop_of' {l a r : List UInt8} {p : Nat} (h : l.drop p = a ++ r) : l.drop (p + a.length) = r := by
 rw [← List.drop_drop, h, List.drop_left]
theorem cellAt_bytes (b : Bool) {s last r : List UInt8} {at' : Nat} {c : Ce} (hd : s.drop at' = cellBytes last c ++ r) (hm : c.may = true) (hl : last.length ≤ 9223372036854775807) (hq : c.q ≤ 9223372036854775807) :
 cellAt b s at' last = some (c, at' + (cellBytes last c).length) := by
 unfold Ce.may at hm
 simp only [Bool.and_eq_true, decide_eq_true_eq] at hm
 obtain ⟨⟨⟨h1, h2⟩, h3⟩, h4⟩ := hm
 obtain ⟨c1, c2⟩ := common_le last c.k
 have ct := common_take last c.k
 have chd := common_head last c.k
 unfold cellBytes at hd ⊢
 generalize common last c.k = n at *
 rw [List.append_assoc] at hd
 have d1 := drop_of' hd
 rw [List.append_assoc] at d1
 have d2 := drop_of' d1
 rw [List.append_assoc] at d2
 have d3 := drop_of' d2
 unfold cellAt
 rw [hd, get_put n _ (by omega)]
 simp only
 rw [if_neg (by omega), d1, getText_putText _ _ (by rw [List.length_drop]; omega)]
 simp only
 rw [if_neg ?_, d2, get_put _ _ (by omega)]
 · simp only
   rw [d3, getText_putText _ _ (by omega)]
   simp only [Option.some.injEq, Prod.mk.injEq]
   constructor
   · have e1 : last.take n ++ c.k.drop n = c.k := by rw [ct, List.take_append_drop]
     have e2 : ((c.q.toNat : Nat) : Int) = c.q := by omega
     rw [e1, e2]
   · simp only [List.length_append]; omega
 · rintro ⟨_, a1, a2, a3⟩
   have hk : n < c.k.length := by
    apply Nat.lt_of_not_le
    intro hle
    exact a2 (List.drop_of_length_le hle)
   refine chd a1 hk ?_
   rw [← a3]
   simp [List.getD, hk]
theorem ahead_trans {a b c : Ce} (h : aheadC a b = true) (k : aheadC b c = true) : aheadC a c = true := by
 unfold aheadC at *
 simp only [Bool.or_eq_true, Bool.and_eq_true, beq_iff_eq, decide_eq_true_eq] at *
 rcases h with h | ⟨h1, h2⟩
 · rcases k with k | ⟨k1, k2⟩
   · exact .inl (bl_trans h k)
   · exact .inl (k1 ▸ h)
 · rcases k with k | ⟨k1, k2⟩
   · exact .inl (h1 ▸ k)
   · exact .inr ⟨h1.trans k1, by omega⟩
theorem ahead_irrefl (a : Ce) : aheadC a a = false := by
 unfold aheadC
 rw [bl_irrefl]
 simp
theorem eachB_some {s : List UInt8} : ∀ (m at' : Nat) (p : Option Ce) (l : List Ce) (nx : Nat), at' ≤ s.length → eachB s m at' p = some (l, nx) →
 nx ≤ s.length ∧ at' ≤ nx ∧ l.length = m ∧ sortedFrom p l = true ∧ s.take nx = s.take at' ++ bodyB p l ∧ refEach s m at' p = some (l, nx)
 | 0, at', p, l, nx, ha, h => by
   simp only [eachB, Option.some.injEq, Prod.mk.injEq] at h
   obtain ⟨rfl, rfl⟩ := h
   exact ⟨ha, Nat.le_refl _, rfl, rfl, by simp [bodyB], rfl⟩
 | m + 1, at', p, l, nx, ha, h => by
   simp only [eachB] at h
   cases e : cellAt true s at' (lastKey p) with
   | none => rw [e] at h; simp at h
   | some r =>
     obtain ⟨c, n1⟩ := r
     rw [e] at h
     simp only at h
     split at h
     · rename_i hok
       cases e2 : eachB s m n1 (some c) with
       | none => rw [e2] at h; simp at h
       | some r2 =>
         obtain ⟨l2, n2⟩ := r2
         rw [e2] at h
         simp only [Option.map_some, Option.some.injEq, Prod.mk.injEq] at h
         obtain ⟨rfl, rfl⟩ := h
         obtain ⟨q1, q2, q3, q4, _⟩ := cellAt_some e
         obtain ⟨r1, r2, r3, r4, r5, r6⟩ := eachB_some m n1 (some c) l2 n2 q1 e2
         refine ⟨r1, by omega, by simp [r3], by simp [sortedFrom, hok, r4], ?_, ?_⟩
         · rw [r5, q3 rfl]; simp [bodyB]
         · simp only [refEach, q4, r6, Option.map_some]
     · cases h
theorem eachB_bytes {s r : List UInt8} : ∀ (l : List Ce) (at' : Nat) (p : Option Ce), s.drop at' = bodyB p l ++ r → sortedFrom p l = true → (lastKey p).length ≤ 64 → (∀ c ∈ l, c.q ≤ 9223372036854775807) →
 eachB s l.length at' p = some (l, at' + (bodyB p l).length)
 | [], at', p, _, _, _, _ => by simp [eachB, bodyB]
 | c :: l, at', p, hd, hs, hk, hq => by
   simp only [sortedFrom, Bool.and_eq_true] at hs
   simp only [bodyB, List.append_assoc] at hd
   have hm : c.may = true := by
    cases p with
    | none => exact hs.1
    | some a => have := hs.1; simp only [okAfter, Bool.and_eq_true] at this; exact this.1
   have h1 := cellAt_bytes true hd hm (by omega) (hq c (by simp))
   have hk2 : (lastKey (some c)).length ≤ 64 := by
    unfold Ce.may at hm
    simp only [Bool.and_eq_true, decide_eq_true_eq] at hm
    exact hm.1.1.2
   have h2 := eachB_bytes l _ (some c) (drop_of' hd) hs.2 hk2 (fun d hd => hq d (by simp [hd]))
   simp only [List.length_cons, eachB, h1]
   rw [if_pos hs.1, h2]
   simp only [Option.map_some, bodyB, List.length_append, Nat.add_assoc]
theorem decB_some {s : List UInt8} {l : List Ce} (h : decB s = some l) : sortedB l = true ∧ blockB l = s ∧ refDec s = some l := by
 unfold decB at h
 cases e : get s with
 | none => rw [e] at h; simp at h
 | some r =>
   obtain ⟨m, k⟩ := r
   rw [e] at h
   simp only at h
   cases e2 : eachB s m k none with
   | none => rw [e2] at h; simp [finB] at h
   | some r2 =>
     obtain ⟨l2, n2⟩ := r2
     rw [e2] at h
     simp only [finB] at h
     split at h
     · rename_i hn
       simp only [List.nil_append, Option.some.injEq] at h
       subst h
       obtain ⟨g1, g2, g3, g4, g5⟩ := get_some e
       obtain ⟨r1, r2, r3, r4, r5, r6⟩ := eachB_some m k none l2 n2 g3 e2
       have hb : blockB l2 = s := by
        unfold blockB
        rw [r3, ← g5, ← r5, hn, List.take_length]
       refine ⟨r4, hb, ?_⟩
       unfold refDec
       rw [e]
       simp only [r6]
       rw [if_pos]
       unfold encB
       rw [if_pos (show sortedB l2 = true from r4), hb]
     · cases h
theorem each_block {l : List Ce} (r : List UInt8) (hs : sortedB l = true) (hl : l.length ≤ 9223372036854775807) (hq : ∀ c ∈ l, c.q ≤ 9223372036854775807) :
 get (blockB l ++ r) = some (l.length, (put l.length).length) ∧ eachB (blockB l ++ r) l.length (put l.length).length none = some (l, (blockB l).length) := by
 constructor
 · unfold blockB
   rw [List.append_assoc]
   exact get_put _ _ hl
 · have hd : (blockB l ++ r).drop (put l.length).length = bodyB none l ++ r := by
    unfold blockB
    rw [List.append_assoc, List.drop_left]
   have := eachB_bytes l _ none hd hs (by simp [lastKey]) hq
   rw [this]
   unfold blockB
   rw [List.length_append]
theorem decB_block {l : List Ce} (hs : sortedB l = true) (hl : l.length ≤ 9223372036854775807) (hq : ∀ c ∈ l, c.q ≤ 9223372036854775807) : decB (blockB l) = some l := by
 obtain ⟨h1, h2⟩ := each_block [] hs hl hq
 rw [List.append_nil] at h1 h2
 unfold decB
 rw [h1]
 simp only [h2, finB, if_true, List.nil_append]
theorem refEach_ints {s : List UInt8} : ∀ (m at' : Nat) (p : Option Ce) (l : List Ce) (nx : Nat), refEach s m at' p = some (l, nx) → l.length = m ∧ ∀ c ∈ l, c.q ≤ 9223372036854775807
 | 0, at', p, l, nx, h => by
   simp only [refEach, Option.some.injEq, Prod.mk.injEq] at h
   obtain ⟨rfl, rfl⟩ := h
   simp
 | m + 1, at', p, l, nx, h => by
   simp only [refEach] at h
   cases e : cellAt false s at' (lastKey p) with
   | none => rw [e] at h; simp at h
   | some r =>
     obtain ⟨c, n1⟩ := r
     rw [e] at h
     simp only at h
     cases e2 : refEach s m n1 (some c) with
     | none => rw [e2] at h; simp at h
     | some r2 =>
       obtain ⟨l2, n2⟩ := r2
       rw [e2] at h
       simp only [Option.map_some, Option.some.injEq, Prod.mk.injEq] at h
       obtain ⟨rfl, rfl⟩ := h
       obtain ⟨a1, a2⟩ := refEach_ints m n1 (some c) l2 n2 e2
       have := (cellAt_some e).2.2.2.2.2.2.2
       refine ⟨by simp [a1], fun d hd => ?_⟩
       rcases List.mem_cons.1 hd with rfl | hd
       · exact this
       · exact a2 d hd
end Spoor
namespace Go.Proofs.YtoglloafpnopaaaGreat
set_option maxRecDepth 16000
open Go.RowKit Spoor
def ceVal (c : Ce) : Value := .agg #[.string ⟨c.k.toArray⟩, .int .i64 c.q, .string ⟨c.v.toArray⟩]
def ceRow (c : Ce) : List Value := [.string ⟨c.k.toArray⟩, .int .i64 c.q, .string ⟨c.v.toArray⟩]
def boxC (c : Ce) : Obj := .cells #[.string ⟨c.k.toArray⟩, .int .i64 c.q, .string ⟨c.v.toArray⟩] 38
def FitsC (c : Ce) : Prop := c.k.length ≤ 140737488351232 ∧ c.v.length ≤ 140737488351232 ∧ c.q ≤ 9223372036854775807
def WfC (c : Ce) : Prop := c.k.length ≤ maxLen ∧ c.v.length ≤ maxLen ∧ c.q ≤ 9223372036854775807
theorem may_any (c : Ce) (w : World) (hf : FitsC c) :
 Calls Tryz.prog 82 #[ceVal c] w fun e w' => e = .returned (.bool c.may) ∧ Below w.heap.size w w' := by
 obtain ⟨k, q, v⟩ := c
 obtain ⟨f1, f2, f3⟩ := hf
 simp only at f1 f2 f3
 clear f3
 unfold ceVal Ce.may
 simp only
 by_cases h0 : k = []
 · subst h0
   rw [show (decide (1 ≤ ([] : List UInt8).length ∧ ([] : List UInt8).length ≤ 64) && decide (0 ≤ q) && decide (v.length ≤ 128)) = false by simp]
   go_enter Tryz.func82, Tryz.ntmps82
   go_wp2_with fail
   go_ret
   exact ⟨rfl, (Below.refl _ _).alloc (Nat.le_refl _) _⟩
 · have hp : 1 ≤ k.length := by cases k with
    | nil => exact absurd rfl h0
    | cons a b => simp
   have h1 : k.isEmpty = false := by cases k with
    | nil => exact absurd rfl h0
    | cons a b => rfl
   by_cases h2 : (k.length : Int) ≤ 64
   · by_cases h3 : 0 ≤ q
     · rw [show (decide (1 ≤ k.length ∧ k.length ≤ 64) && decide (0 ≤ q) && decide (v.length ≤ 128)) = decide ((v.length : Int) ≤ 128) by
        rw [decide_eq_true (show 1 ≤ k.length ∧ k.length ≤ 64 from ⟨hp, by omega⟩), decide_eq_true h3, Bool.true_and, Bool.true_and, decide_eq_decide]; omega]
       go_enter Tryz.func82, Tryz.ntmps82
       go_wp2_with fail
       go_ret
       exact ⟨rfl, (Below.refl _ _).alloc (Nat.le_refl _) _⟩
     · rw [show (decide (1 ≤ k.length ∧ k.length ≤ 64) && decide (0 ≤ q) && decide (v.length ≤ 128)) = false by rw [decide_eq_false h3]; simp]
       have h4 := decide_eq_false h3
       go_enter Tryz.func82, Tryz.ntmps82
       go_wp2_with fail
       go_ret
       exact ⟨rfl, (Below.refl _ _).alloc (Nat.le_refl _) _⟩
   · rw [show (decide (1 ≤ k.length ∧ k.length ≤ 64) && decide (0 ≤ q) && decide (v.length ≤ 128)) = false by rw [decide_eq_false (show ¬ (1 ≤ k.length ∧ k.length ≤ 64) by omega)]; simp]
     have h4 := decide_eq_false h2
     go_enter Tryz.func82, Tryz.ntmps82
     go_wp2_with fail
     go_ret
     exact ⟨rfl, (Below.refl _ _).alloc (Nat.le_refl _) _⟩
def cmpT (a b : List UInt8) : Int := if Op.bytesLess a b then -1 else if Op.bytesLess b a then 1 else 0
theorem compareT_any (a b : List UInt8) (w : World) :
 Calls Tryz.prog 93 #[.string ⟨a.toArray⟩, .string ⟨b.toArray⟩] w fun e w' => e = .returned (.int .i64 (cmpT a b)) ∧ w = w' := by
 unfold cmpT
 have isn : ∀ (x : ByteArray) (W : World), Calls Tryz.prog 122 #[.string x] W fun e w' => e = .returned (.bool false) ∧ W = w' := by
  intro x W
  have h : (x.toList == x.toList) = true := by simp
  go_enter Tryz.func122, Tryz.ntmps122
  go_wp2_with fail
  go_ret
  exact ⟨rfl, rfl⟩
 have IS := Lib.hid isn
 clear isn
 cases h1 : Op.bytesLess a b with
 | true =>
   simp only [if_true]
   go_enter Tryz.func93, Tryz.ntmps93
   go_wp2_with fail
   refine (IS.out _ _).mono ?_
   rintro e w1 ⟨rfl, rfl⟩
   go_wp2_with fail
   refine (IS.out _ _).mono ?_
   rintro e w2 ⟨rfl, rfl⟩
   go_wp2_with fail
   go_ret
   exact ⟨rfl, rfl⟩
 | false =>
   by_cases hab : a = b
   · subst hab
     rw [bl_irrefl]
     simp only [Bool.false_eq_true, if_false]
     go_enter Tryz.func93, Tryz.ntmps93
     go_wp2_with fail
     refine (IS.out _ _).mono ?_
     rintro e w1 ⟨rfl, rfl⟩
     go_wp2_with fail
     refine (IS.out _ _).mono ?_
     rintro e w2 ⟨rfl, rfl⟩
     go_wp2_with fail
     go_ret
     exact ⟨rfl, rfl⟩
   · have h2 : Op.bytesLess b a = true := by
      cases h2 : Op.bytesLess b a with
      | true => rfl
      | false => exact absurd (bl_total h1 h2) hab
     have hb : (a == b) = false := by simpa using hab
     rw [h2]
     simp only [if_true, Bool.false_eq_true, if_false]
     clear hab h2
     go_enter Tryz.func93, Tryz.ntmps93
     go_wp2_with fail
     refine (IS.out _ _).mono ?_
     rintro e w1 ⟨rfl, rfl⟩
     go_wp2_with fail
     refine (IS.out _ _).mono ?_
     rintro e w2 ⟨rfl, rfl⟩
     go_wp2_with fail
     go_ret
     exact ⟨rfl, rfl⟩
def cmpCe (a b : Ce) : Int := if cmpT a.k b.k = 0 then Lib.compareInt b.q a.q else cmpT a.k b.k
theorem cmpCe_less (a b : Ce) : decide (0 ≤ cmpCe a b) = !aheadC a b := by
 unfold cmpCe cmpT aheadC Lib.compareInt
 rcases bl_cases a.k b.k with ⟨h1, h2, h3, _⟩ | ⟨h1, h2, h3⟩ | ⟨h1, h2, h3, _⟩
 · rw [h1]; simp
 · rw [h1, h2, h3]
   simp only [Bool.false_eq_true, if_false, beq_self_eq_true, Bool.true_and, if_true, Bool.false_or]
   by_cases h : b.q < a.q
   · simp [h]
   · by_cases h' : b.q > a.q <;> simp [h, h']
 · rw [h1, h2, h3]; simp
theorem orOne (g : Nat) (a b R : Int) (w : World) (hR : R = if a = 0 then b else a) (h0 : w.cell? ⟨g, 0, none⟩ = some (.int .i64 a)) (h1 : w.cell? ⟨g, 1, none⟩ = some (.int .i64 b)) :
 Calls Tryz.prog 92 #[.slice (some ⟨g, 0, none⟩) 2 2] w fun e w' => e = .returned (.int .i64 R) ∧ w = w' := by
 subst hR
 by_cases ha : a = 0
 · subst ha
   rw [if_pos rfl]
   by_cases hb : b = 0
   · subst hb
     go_enter Tryz.func92, Tryz.ntmps92
     go_wp2
     refine wp_loop_rounds 3 ?_
     repeat (rw [rounds_succ]; go_wp2)
     go_ret
     exact ⟨rfl, rfl⟩
   · have hb1 : (b != 0) = true := by simpa using hb
     clear hb
     go_enter Tryz.func92, Tryz.ntmps92
     go_wp2
     refine wp_loop_rounds 3 ?_
     repeat (rw [rounds_succ]; go_wp2)
     go_ret
     exact ⟨rfl, rfl⟩
 · rw [if_neg ha]
   have ha1 : (a != 0) = true := by simpa using ha
   clear ha
   go_enter Tryz.func92, Tryz.ntmps92
   go_wp2
   refine wp_loop_rounds 3 ?_
   repeat (rw [rounds_succ]; go_wp2)
   go_ret
   exact ⟨rfl, rfl⟩
theorem compareC_any (a b : Ce) (w : World) :
 Calls Tryz.prog 75 #[ceVal a, ceVal b] w fun e w' => e = .returned (.int .i64 (cmpCe a b)) ∧ Below w.heap.size w w' := by
 have hR : cmpCe a b = if cmpT a.k b.k = 0 then Lib.compareInt b.q a.q else cmpT a.k b.k := rfl
 obtain ⟨R, hR2⟩ : ∃ R, cmpCe a b = R := ⟨_, rfl⟩
 rw [hR2] at hR ⊢
 clear hR2
 have c1 := fun W => (compareT_any a.k b.k W).turned
 have c2 := fun W => Tryz.cmp_Compare_int b.q a.q W
 have C1 := Lib.hid c1
 have C2 := Lib.hid c2
 clear c1 c2
 generalize cmpT a.k b.k = p at *
 generalize Lib.compareInt b.q a.q = q at *
 have HR := Lib.hid hR
 clear hR
 unfold ceVal
 go_enter Tryz.func75, Tryz.ntmps75
 go_wp2_with fail
 refine wp_region_tail 10 (by kernel_rfl) (by kernel_rfl) ?_
 simp only [List.take_succ_cons, List.take_zero, List.drop_succ_cons, List.drop_zero]
 repeat still_step
 still_call (C1.out _)
 repeat still_step
 still_call (C2.out _)
 refine wpStill_nil ?_
 go_wp2_with fail
 refine (orOne _ p q R _ HR.out (by go_simp) (by go_simp)).mono ?_
 rintro e w1 ⟨rfl, rfl⟩
 go_wp2_with fail
 go_ret
 exact ⟨rfl, ((((Below.refl _ _).alloc (Nat.le_refl _) _).alloc (by simp) _).alloc (by simp; omega) _).drew⟩
theorem compare_any (a b : Ce) (w : World) :
 Calls Tryz.prog 46 #[ceVal a, ceVal b] w fun e w' => e = .returned (.int .i64 (cmpCe a b)) ∧ Below w.heap.size w w' := by
 have c1 := fun W => compareC_any a b W
 have b0 := ((Below.refl w.heap.size w).alloc (Nat.le_refl _) (boxC a)).alloc (by simp) (boxC b)
 unfold ceVal boxC at *
 have C1 := Lib.hid c1
 clear c1
 generalize cmpCe a b = r at *
 go_enter Tryz.func46, Tryz.ntmps46
 go_wp2_with fail
 refine (C1.out _).mono ?_
 rintro e w1 ⟨rfl, hb⟩
 go_wp2_with fail
 go_ret
 exact ⟨rfl, b0.trans (hb.mono b0.size)⟩
theorem btB {w a b : World} (h : Below w.heap.size w a) (k : Below a.heap.size a b) : Below w.heap.size w b := h.trans (k.mono h.size)
def RowAt (b o : Nat) (l : List Ce) (w : World) : Prop := b < w.heap.size ∧ ∀ i, i < l.length → w.rangeAt b (o + i * 3) (ceRow (l.getD i Ce.zero))
def SlAt (s : Value) (l : List Ce) (w : World) : Prop := ∃ A cap, s = .slice A l.length cap ∧ l.length ≤ cap ∧ cap ≤ maxLen ∧ (0 < l.length → ∃ b o, A = some ⟨b, o, none⟩ ∧ RowAt b o l w)
theorem RowAt.cells {b o : Nat} {l : List Ce} {w : World} (h : RowAt b o l w) {i : Nat} (hi : i < l.length) :
 w.cell? ⟨b, o + i * 3, none⟩ = some (.string ⟨(l.getD i Ce.zero).k.toArray⟩) ∧ w.cell? ⟨b, o + i * 3 + 1, none⟩ = some (.int .i64 (l.getD i Ce.zero).q) ∧ w.cell? ⟨b, o + i * 3 + 2, none⟩ = some (.string ⟨(l.getD i Ce.zero).v.toArray⟩) :=
 ⟨h.2 i hi 0 _ rfl, h.2 i hi 1 _ rfl, h.2 i hi 2 _ rfl⟩
theorem range_later {b o B : Nat} {cs : List Value} {w w' : World} (h : w.rangeAt b o cs) (hb : Below B w w') (hlt : b < B) : w'.rangeAt b o cs := fun j v hv => (hb.cell (p := ⟨b, o + j, none⟩) hlt).trans (h j v hv)
theorem RowAt.later {b o : Nat} {l : List Ce} {w w' : World} {B : Nat} (h : RowAt b o l w) (hb : Below B w w') (hlt : b < B) : RowAt b o l w' :=
 ⟨Nat.lt_of_lt_of_le h.1 hb.size, fun i hi => range_later (h.2 i hi) hb hlt⟩
theorem SlAt.later {s : Value} {l : List Ce} {w w' : World} (h : SlAt s l w) (hb : Below w.heap.size w w') : SlAt s l w' := by
 obtain ⟨A, cap, h1, h2, h3, h4⟩ := h
 refine ⟨A, cap, h1, h2, h3, fun hl => ?_⟩
 obtain ⟨b, o, h5, h6⟩ := h4 hl
 exact ⟨b, o, h5, h6.later hb h6.1⟩
def CeAt (b : Nat) (c : Ce) (w : World) : Prop := w.heap[b]? = some (.cells #[.string ⟨c.k.toArray⟩, .int .i64 c.q, .string ⟨c.v.toArray⟩] 38 (0, 0))
theorem CeAt.cell {b : Nat} {c : Ce} {w : World} (h : CeAt b c w) : w.cell? ⟨b, 0, none⟩ = some (.string ⟨c.k.toArray⟩) ∧ w.cell? ⟨b, 1, none⟩ = some (.int .i64 c.q) ∧ w.cell? ⟨b, 2, none⟩ = some (.string ⟨c.v.toArray⟩) := by
 refine ⟨?_, ?_, ?_⟩ <;> (rw [cell_of_row w b _ _ _ _ h]; rfl)
theorem CeAt.frees {b : Nat} {c : Ce} {w : World} (h : CeAt b c w) : w.frozen? ⟨b, 0, none⟩ = false ∧ w.frozen? ⟨b, 1, none⟩ = false ∧ w.frozen? ⟨b, 2, none⟩ = false := by
 refine ⟨?_, ?_, ?_⟩ <;> (unfold CeAt at h; simp [World.frozen?, h])
theorem CeAt.boxed (c : Ce) (w : World) : CeAt w.heap.size c (w.alloc (boxC c)) := heap_alloc_new w _
theorem CeAt.lt {b : Nat} {c : Ce} {w : World} (h : CeAt b c w) : b < w.heap.size := (Go.ltA h)
theorem CeAt.later {B b : Nat} {c : Ce} {w w' : World} (h : CeAt b c w) (hb : Below B w w') (hlt : b < B) : CeAt b c w' := by
 unfold CeAt; rw [hb.block b hlt]; exact h
theorem CeAt.alloc' {b : Nat} {c : Ce} {w : World} (h : CeAt b c w) (o : Obj) : CeAt b c (w.alloc o) := (Below.heap_alloc w o b h.lt).trans h
theorem getD_lt {l : List Ce} {P : Ce → Prop} (h : ∀ c ∈ l, P c) {i : Nat} (hi : i < l.length) : P (l.getD i Ce.zero) := by
 have : l.getD i Ce.zero = l[i] := by simp [List.getD, hi]
 rw [this]
 exact h _ (List.getElem_mem hi)
set_option maxHeartbeats 4000000 in
theorem sortedC_any (s : Value) (l : List Ce) (w : World) (hs : SlAt s l w) (hf : ∀ c ∈ l, FitsC c) :
 Calls Tryz.prog 62 #[s] w fun e w' => e = .returned (.bool (sortedB l)) ∧ Below w.heap.size w w' := by
 obtain ⟨A, cap, rfl, h1, h2, h3⟩ := hs
 unfold maxLen at h2
 have H3 := Lib.hid h3
 have HF := Lib.hid hf
 obtain ⟨n, hn⟩ : ∃ n, l.length = n := ⟨_, rfl⟩
 have HN := Lib.hid hn
 rw [hn] at h1 ⊢
 clear h3 hf hn
 go_enter Tryz.func62, Tryz.ntmps62
 go_wp2_with fail
 go_loopw [8] (fun i wr => ∃ k : Nat, k ≤ n ∧ i = .int .i64 k ∧ sortedB (l.take k) = true ∧ Below w.heap.size w wr) (fun i _ => n - (intOf i).toNat)
 case atStart => exact ⟨0, by omega, rfl, rfl, Below.refl _ _⟩
 case round =>
  obtain ⟨k, hk, rfl, hsk, hb⟩ := hrel
  by_cases hlt : k < n
  · obtain ⟨b, o, rfl, hrow⟩ := H3.out (by rw [HN.out]; omega)
    have hlb := hrow.1
    have hrow := hrow.later hb hlb
    have hc := hrow.cells (i := k) (by rw [HN.out]; exact hlt)
    have hstep := sortedB_step l k (by rw [HN.out]; exact hlt)
    rw [hsk, Bool.true_and] at hstep
    have hfc := getD_lt HF.out (i := k) (by rw [HN.out]; exact hlt)
    have cm := fun W => may_any (l.getD k Ce.zero) W hfc
    have q1 := CeAt.boxed (l.getD k Ce.zero) wr
    have b1 := (Below.refl wr.heap.size wr).alloc (Nat.le_refl _) (boxC (l.getD k Ce.zero))
    have HK := Lib.hid hsk
    clear hsk hfc
    generalize hcc : l.getD k Ce.zero = c at *
    obtain ⟨x0, x1, x2⟩ := hc
    unfold boxC at q1 b1
    unfold ceVal at cm
    have B := btB hb b1
    have hrow1 := hrow.later b1 (Nat.lt_of_lt_of_le hlb hb.size)
    go_wp2_with fail
    generalize wr.alloc _ = w1 at *
    generalize wr.heap.size = g at *
    obtain ⟨y0, y1, y2⟩ := q1.cell
    have lt1 := q1.lt
    have lt2 := hrow1.1
    clear x0 x1 x2 hrow b1 hb q1 hlb
    cases hm : c.may with
    | false =>
      rw [hm] at cm
      have CM := Lib.hid cm
      have hno : sortedB l = false := sortedB_no l (k + 1) (by rw [hstep]; unfold prevOf; split <;> simp [okAfter, hm])
      clear cm hm hstep
      refine wp_region_more (by kernel_rfl) (by kernel_rfl) ?_
      repeat (go_big_quiet_step (fail))
      go_big_quiet_step (exact Calls.more (CM.out _))
      repeat (go_big_quiet_step (fail))
      refine wpQuiet_nil ?_
      rintro _ ⟨ex, rfl⟩
      have b2 := World.below_more w1 ex
      generalize w1.more ex = w2 at *
      have B := btB B b2
      go_wp2_with fail
      go_ret
      exact ⟨ret1 (by rw [hno]; rfl), B⟩
    | true =>
      rw [hm] at cm
      have CM := Lib.hid cm
      clear cm
      by_cases hk0 : k = 0
      · subst hk0
        have hyes : sortedB (l.take (0 + 1)) = true := by rw [hstep]; simp [prevOf, okAfter, hm]
        have HY := Lib.hid hyes
        clear hm hyes hstep
        refine wp_region_more (by kernel_rfl) (by kernel_rfl) ?_
        repeat (go_big_quiet_step (fail))
        go_big_quiet_step (exact Calls.more (CM.out _))
        repeat (go_big_quiet_step (fail))
        refine wpQuiet_nil ?_
        rintro _ ⟨ex, rfl⟩
        have b2 := World.below_more w1 ex
        generalize w1.more ex = w2 at *
        have B := btB B b2
        go_wp2_with fail
        go_roundw
        case rel => exact ⟨0 + 1, by omega, by go_num, HY.out, B⟩
        case measure => simp [intOf]; omega
      · have hpk : k - 1 < l.length := by rw [HN.out]; omega
        have hc2 := hrow1.cells hpk
        have hprev : prevOf l k = some (l.getD (k - 1) Ce.zero) := by unfold prevOf; rw [if_neg hk0]
        have cc := fun W => compare_any (l.getD (k - 1) Ce.zero) c W
        have hr := cmpCe_less (l.getD (k - 1) Ce.zero) c
        rw [hprev] at hstep
        simp only [okAfter, hm, Bool.true_and] at hstep
        generalize l.getD (k - 1) Ce.zero = d at *
        generalize cmpCe d c = r at *
        rw [← hstep] at hr
        obtain ⟨x0, x1, x2⟩ := hc2
        obtain ⟨j, rfl⟩ : ∃ j, k = j + 1 := ⟨k - 1, by omega⟩
        simp only [Nat.add_sub_cancel] at x0 x1 x2
        unfold ceVal at cc
        have CC := Lib.hid cc
        clear cc hm hprev hpk hk0 hstep
        cases hy : sortedB (l.take (j + 1 + 1)) with
        | false =>
          rw [hy] at hr
          have hno : sortedB l = false := sortedB_no l _ hy
          have hr1 : (0 ≤ r) = True := by simpa using hr
          clear hy hr
          refine wp_region_more (by kernel_rfl) (by kernel_rfl) ?_
          repeat (go_big_quiet_step (fail))
          go_big_quiet_step (exact Calls.more (CM.out _))
          repeat (go_big_quiet_step (fail))
          go_big_quiet_step (exact Calls.more (CC.out _))
          repeat (go_big_quiet_step (fail))
          refine wpQuiet_nil ?_
          rintro _ ⟨ex, rfl⟩
          have b2 := World.below_more w1 ex
          generalize w1.more ex = w2 at *
          have B := btB B b2
          go_wp2_with fail
          go_ret
          exact ⟨ret1 (by rw [hno]; rfl), B⟩
        | true =>
          rw [hy] at hr
          have HY := Lib.hid hy
          have hr1 : decide (0 ≤ r) = false := by simpa using hr
          clear hy hr
          refine wp_region_more (by kernel_rfl) (by kernel_rfl) ?_
          repeat (go_big_quiet_step (fail))
          go_big_quiet_step (exact Calls.more (CM.out _))
          repeat (go_big_quiet_step (fail))
          go_big_quiet_step (exact Calls.more (CC.out _))
          repeat (go_big_quiet_step (fail))
          refine wpQuiet_nil ?_
          rintro _ ⟨ex, rfl⟩
          have b2 := World.below_more w1 ex
          generalize w1.more ex = w2 at *
          have B := btB B b2
          go_wp2_with fail
          go_roundw
          case rel => exact ⟨j + 1 + 1, by omega, by go_num, HY.out, B⟩
          case measure => simp [intOf]; omega
  · obtain rfl : k = n := by omega
    go_wp2_with fail
    go_ret
    exact ⟨ret1 (by rw [List.take_of_length_le (by rw [HN.out]; exact Nat.le_refl _)] at hsk; rw [hsk]; rfl), hb⟩
theorem sortedBl_any (s : Value) (l : List Ce) (w : World) (hs : SlAt s l w) (hf : ∀ c ∈ l, FitsC c) :
 Calls Tryz.prog 30 #[s] w fun e w' => e = .returned (.bool (sortedB l)) ∧ Below w.heap.size w w' := by
 have c1 := sortedC_any s l w hs hf
 have C1 := Lib.hid c1
 generalize sortedB l = b at *
 clear c1 hs hf
 go_enter Tryz.func30, Tryz.ntmps30
 go_wp2_with fail
 refine C1.out.mono ?_
 rintro e w1 ⟨rfl, b1⟩
 go_wp2_with fail
 go_ret
 exact ⟨rfl, b1⟩
theorem at_of (a : List UInt8) (i : Nat) (h : i < a.length) (W : World) : (Instr.index 9 (.string ⟨a.toArray⟩) (.int .i64 (i : Int))).run Tryz.prog W = .ok (.int .u8 ((a.getD i 0).toNat : Int)) W :=
 index_nat ⟨a.toArray⟩ i (by have := bytes_len ⟨a.toArray⟩; simp only at this; omega) W
theorem common_any (a b : List UInt8) (w : World) (ha : a.length ≤ 140737488351232) (hb : b.length ≤ 140737488351232) :
 Calls Tryz.prog 67 #[.string ⟨a.toArray⟩, .string ⟨b.toArray⟩] w fun e w' => e = .returned (.int .i64 (common a b : Nat)) ∧ Below w.heap.size w w' := by
 obtain ⟨n, hn⟩ : ∃ n, min a.length b.length = n := ⟨_, rfl⟩
 have hmin : min (a.length : Int) (b.length : Int) = (n : Int) := by omega
 have hmin2 : (if (b.length : Int) < (a.length : Int) then (b.length : Int) else (a.length : Int)) = (n : Int) := by split <;> omega
 have HN := Lib.hid hn
 have hn2 : n ≤ 140737488351232 := by omega
 clear hn
 go_enter Tryz.func67, Tryz.ntmps67
 go_wp2_with fail
 clear hmin hmin2
 go_loopw [13] (fun i wr => ∃ k : Nat, k ≤ n ∧ i = .int .i64 k ∧ a.take k = b.take k ∧ Below w.heap.size w wr) (fun i _ => n - (intOf i).toNat)
 case atStart => exact ⟨0, by omega, rfl, by simp, Below.refl _ _⟩
 case round =>
  obtain ⟨k, hk, rfl, htk, hb⟩ := hrel
  have HT := Lib.hid htk
  clear htk
  by_cases hlt : k < n
  · have hka : k < a.length := by have := HN.out; omega
    have hkb : k < b.length := by have := HN.out; omega
    have i1 := fun W => at_of a k hka W
    have i2 := fun W => at_of b k hkb W
    by_cases hx : ((a.getD k 0).toNat : Int) = ((b.getD k 0).toNat : Int)
    · have htk2 : a.take (k + 1) = b.take (k + 1) := by
       rw [take_getD a k hka, take_getD b k hkb, HT.out, UInt8.toNat_inj.1 (Int.ofNat.inj hx)]
      have HT2 := Lib.hid htk2
      rw [hx] at i1
      clear htk2 hka hkb
      generalize ((b.getD k 0).toNat : Int) = y at *
      clear hx
      go_wp2_with fail
      go_quiet (fail)
      go_wp2_with fail
      go_roundw
      case rel => exact ⟨k + 1, by omega, by go_num, HT2.out, _root_.Go.below_drewN hb _⟩
      case measure => simp [intOf]; omega
    · have hne : a.getD k 0 ≠ b.getD k 0 := fun e => hx (by rw [e])
      have hck : common a b = k := common_of k a b (by omega) (by omega) HT.out (fun _ _ => hne)
      have HC := Lib.hid hck
      have hxb : (((a.getD k 0).toNat : Int) != ((b.getD k 0).toNat : Int)) = true := by simpa using hx
      clear hck hka hkb hne
      generalize ((a.getD k 0).toNat : Int) = x at *
      generalize ((b.getD k 0).toNat : Int) = y at *
      go_wp2_with fail
      go_quiet (fail)
      go_wp2_with fail
      go_ret
      exact ⟨ret1 (by rw [HC.out]; rfl), _root_.Go.below_drewN hb _⟩
  · obtain rfl : k = n := by omega
    have hck : common a b = k := common_of k a b (by have := HN.out; omega) (by have := HN.out; omega) HT.out (fun h1 h2 => by have := HN.out; omega)
    have HC := Lib.hid hck
    clear hck
    go_wp2_with fail
    go_ret
    exact ⟨ret1 (by rw [HC.out]; rfl), hb⟩
open Go.ChangeShapes Go.WideShapes Go.Opens
section
variable {H : Type} {enc : TypeId × Value → H} {w : World} {base : Nat} {spare : Nat → Bool} {held : Bool}
end
end Go.Proofs.YtoglloafpnopaaaGreat
namespace Go
open Go.RowKit Go.Lib
def Thawed (cur : Array Value) (fz : Nat × Nat) : Prop := ∀ j, j < cur.size → ¬ (fz.1 ≤ j ∧ j < fz.2)
def World.ownsT (w : World) (base : Nat) (e : TypeId) (v : Value) (bs : List UInt8) : Prop :=
 ∃ g cap cur fz, v = .slice (some ⟨g, 0, none⟩) bs.length cap ∧ base ≤ g ∧ w.heap[g]? = some (.cells cur e fz) ∧ Thawed cur fz ∧ bs.length ≤ cap ∧ cap ≤ maxLen ∧ cur.size = cap ∧ cur.toList.take bs.length = bs.map fun b => Value.int .u8 b.toNat
theorem World.ownsT.later {w w' : World} {base : Nat} {e : TypeId} {v : Value} {bs : List UInt8} (h : w.ownsT base e v bs) (hb : Below w.heap.size w w') : w'.ownsT base e v bs := by
 obtain ⟨g, cap, cur, fz, h1, h2, h3, h4⟩ := h
 exact ⟨g, cap, cur, fz, h1, h2, (hb.block g (Go.ltA h3)).trans h3, h4⟩
theorem World.ownsT.mono {w : World} {base base' : Nat} {e : TypeId} {v : Value} {bs : List UInt8} (h : w.ownsT base e v bs) (hb : base' ≤ base) : w.ownsT base' e v bs := by
 obtain ⟨g, cap, cur, fz, h1, h2, h3⟩ := h
 exact ⟨g, cap, cur, fz, h1, Nat.le_trans hb h2, h3⟩
theorem World.ownsT.below {a w w' : World} {B : Nat} {e : TypeId} {v : Value} {bs : List UInt8} (h : w.ownsT B e v bs) (hb : Below B a w) (hg : w.grownBy w' v.ownBlock) (hB : B ≤ w.heap.size) : Below B a w' := by
 obtain ⟨g, cap, cur, fz, rfl, h2, _⟩ := h
 refine hb.grown hg hB (fun k hk => ?_)
 simp only [Value.ownBlock, Option.some.injEq] at hk
 omega
theorem storeCells_T (P : Program) (g o : Nat) (t : TypeId) (fz : Nat × Nat) : ∀ (vs : List Value) (i : Nat) (cur : Array Value) (w : World), w.heap[g]? = some (.cells cur t fz) → Thawed cur fz → o + i + vs.length ≤ cur.size → (∀ v ∈ vs, v.oneCell' = true) →
 (storeCells ⟨g, o, none⟩ vs i).run P w = .ok () (w.setRow g (cur.toList.take (o + i) ++ vs ++ cur.toList.drop (o + i + vs.length)).toArray)
 | [], i, cur, w, hg, _, _, _ => by
   rw [List.append_nil, List.length_nil, Nat.add_zero, List.take_append_drop, Array.toArray_toList, setRow_self w g cur t fz hg]
   rfl
 | v :: rest, i, cur, w, hg, hfz, hl, h1 => by
   have hl' : o + i + (rest.length + 1) ≤ cur.size := hl
   have hi : o + i < cur.size := by omega
   have hcell : w.cell? ⟨g, o + i, none⟩ = some cur[o + i] := by simp [World.cell?, hg, hi]
   have hfro : w.frozen? ⟨g, o + i, none⟩ = false := by
    have := hfz _ hi
    obtain ⟨lo, hi'⟩ := fz
    simp only [World.frozen?, hg, Bool.and_eq_false_iff, decide_eq_false_iff_not]
    simp only at this
    omega
   have hst : (store ((⟨g, o, none⟩ : Addr).add i) v).run P w = .ok () (w.setRow g (cur.setIfInBounds (o + i) v)) := by
    rw [Addr.add_lit, run_store P w _ v _ (h1 v (List.mem_cons_self ..)), hcell]
    simp [hfro, setCell_eq_setRow w g (o + i) cur t fz v hg]
   have hfz2 : Thawed (cur.setIfInBounds (o + i) v) fz := by unfold Thawed; rw [Array.size_setIfInBounds]; exact hfz
   have ih := storeCells_T P g o t fz rest (i + 1) (cur.setIfInBounds (o + i) v) (w.setRow g (cur.setIfInBounds (o + i) v)) (setRow_heap w g cur _ t _ hg) hfz2 (by rw [Array.size_setIfInBounds]; omega) (fun x hx => h1 x (List.mem_cons_of_mem _ hx))
   simp only [storeCells, Sem.run_bind, hst, Result.andThen_ok, ih, setRow_setRow]
   congr 3
   have e := list_seg_step cur.toList (o + i) v rest (by rw [Array.length_toList]; omega)
   simpa [Array.toList_setIfInBounds, Nat.add_assoc] using e
theorem strCells_of (l : List UInt8) : strCells ⟨l.toArray⟩ = l.map fun b => Value.int .u8 b.toNat := by simp [strCells]
theorem size_of (l : List UInt8) : (⟨l.toArray⟩ : ByteArray).size = l.length := by show l.toArray.size = _; simp
section
variable {P : Program} (w : World)
theorem run_append_T (base : Nat) (t u ty e : TypeId) (i : TypeInfo) (ht : P.underlying t = some (.slice e)) (hu : P.underlying u = some .string) (hi : P.info? e = some i) (hz : i.zero = some (.int .u8 0)) (hsize : i.size = 1) (hby : i.bytes = 1)
 (v : Value) (bs l : List UInt8) (hown : w.ownsT base e v bs) (hb : bs.length + l.length ≤ 140737488355328) (hbase : base ≤ w.heap.size) :
 ∃ v' w', (Builtin.append_ #[t, u] ty #[v, .string ⟨l.toArray⟩]).run P w = .ok v' w' ∧ w'.ownsT base e v' (bs ++ l) ∧ w.grownBy w' v.ownBlock := by
 obtain ⟨g, cap, cur, fz, rfl, hbg, hg, hfz, hnc, hcm, hcs, htake⟩ := hown
 have hmax : bs.length + l.length ≤ maxLen := by unfold maxLen; omega
 have hll : (bs ++ l).length = bs.length + l.length := List.length_append
 by_cases hroom : bs.length + l.length ≤ cap
 · have hst := storeCells_T P g bs.length e fz (strCells ⟨l.toArray⟩) 0 cur w hg hfz (by rw [strCells_length, size_of]; omega) (strCells_oneCell _)
   have hf := run_firstCells_string (P := P) w 1 ⟨l.toArray⟩
   simp only [Nat.add_zero, strCells_length, size_of] at hst hf
   have hr : (Builtin.append_ #[t, u] ty #[.slice (some ⟨g, 0, none⟩) bs.length cap, .string ⟨l.toArray⟩]).run P w =
    .ok (.slice (some ⟨g, 0, none⟩) (bs.length + l.length) cap) (w.setRow g (cur.toList.take bs.length ++ strCells ⟨l.toArray⟩ ++ cur.toList.drop (bs.length + l.length)).toArray) := by
    simp [Builtin.append_, run_underlying ht, run_underlying hu, sizeOf, typeInfo, hi, hsize, Builtin.lenOf, size_of, hroom, hf, Addr.add_lit, hst]
   refine ⟨_, _, hr, ⟨g, cap, _, fz, by rw [hll], hbg, setRow_heap w g cur _ e _ hg, ?_, by omega, hcm, ?_, ?_⟩, ⟨rfl, rfl, rfl, by simp, fun k _ hk => setRow_other w g k _ (fun e => hk (by simp [Value.ownBlock, e]))⟩⟩
   · intro j hj
     refine hfz j ?_
     simp only [List.size_toArray, List.length_append, List.length_take, List.length_drop, Array.length_toList, strCells_length, size_of] at hj
     omega
   · simp only [List.size_toArray, List.length_append, List.length_take, List.length_drop, Array.length_toList, strCells_length, size_of]
     omega
   · rw [htake, strCells_of, ← List.map_append]
     exact List.take_left' (by rw [List.length_map])
 · have holds : ∀ j u, (bs.map fun b => Value.int .u8 b.toNat)[j]? = some u → w.cell? ((⟨g, 0, none⟩ : Addr).add j) = some u := by
    intro j u hu
    rw [Addr.add_lit, Nat.zero_add, cell_of_row w g j cur e fz hg]
    rw [← htake, List.getElem?_take] at hu
    split at hu
    · simpa using hu
    · cases hu
   have hr := run_append_grow_string (P := P) w t u ty e i (.int .u8 0) ht hu hi hz ⟨g, 0, none⟩ bs.length cap (bs.map fun b => Value.int .u8 b.toNat) (by rw [hsize, List.length_map, Nat.mul_one]) holds ⟨l.toArray⟩ (by rw [size_of]; omega)
    (by rw [size_of]; omega) (by rw [hby, size_of]; exact growslice_fits (by omega) (by omega))
   have hge := grownCap_ge w (bs.length + l.length) cap e
   have hcm2 : grownCap w (bs.length + l.length) cap e ≤ maxLen := grownCap_le_maxLen w (bs.length + l.length) cap e hmax
   rw [size_of] at hr
   have hz1 : (Value.int IntKind.u8 0).cells.size = 1 := rfl
   refine ⟨_, _, hr, ⟨w.heap.size, _, _, (0, 0), by rw [hll], hbase, heap_alloc_new w.drew _, fun j _ h => by simp at h, by omega, hcm2, ?_, ?_⟩, ⟨rfl, rfl, rfl, by simp, fun k hk _ => Below.heap_alloc w.drew _ k hk⟩⟩
   · simp only [Array.size_append, List.size_toArray, size_zeroCells, hz1, List.length_map, strCells_length, size_of]
     omega
   · simp only [Array.toList_append, List.append_assoc, strCells_of]
     rw [← List.append_assoc, ← List.map_append]
     exact List.take_left' (by rw [List.length_map])
theorem wpList_append_T {ops : Array Oper} {rest : List Oper} {o : Oper} {a : Act} {Q : Exit → Act → World → Prop} (hgd : o.guard = none) (sl x : Operand) (t u : TypeId)
 (ho : o.op = .call { callee := .builtin .append, args := #[sl, x], argTypes := #[t, u] })
 (base : Nat) (e : TypeId) (i : TypeInfo) (ht : P.underlying t = some (.slice e)) (hu : P.underlying u = some .string) (hi : P.info? e = some i) (hz : i.zero = some (.int .u8 0)) (hsize : i.size = 1) (hby : i.bytes = 1)
 (v : Value) (bs l : List UInt8) (hs : a.eval sl = v) (hown : w.ownsT base e v bs) (hx : a.eval x = .string ⟨l.toArray⟩) (hb : bs.length + l.length ≤ 140737488355328) (hbase : base ≤ w.heap.size)
 (h : ∀ v' w', w'.ownsT base e v' (bs ++ l) → w.grownBy w' v.ownBlock → wpList P ops Q rest (a.put o.dst v') w') : wpList P ops Q (o :: rest) a w := by
 refine wpList_plain hgd fun K hK => ?_
 obtain ⟨v', w', hr, h2, h3⟩ := run_append_T (P := P) w base t u o.type e i ht hu hi hz hsize hby v bs l hown hb hbase
 unfold Oper.wp execOp
 simp only [ho, resolve, invoke, builtin, Sem.run_bind, Sem.run_pure, Result.andThen_ok, List.map_toArray, List.map_cons, List.map_nil, hs, hx, hr]
 exact hK _ _ (h v' w' h2 h3)
theorem run_bytes_T (src dst e : TypeId) (l : List UInt8) (hs : P.underlying src = some .string) (hd : P.underlying dst = some (.slice e)) (he : P.underlying e = some (.int .u8)) (hl : l.length ≤ maxLen) :
 ∃ v' w', (convert src dst (.string ⟨l.toArray⟩)).run P w = .ok v' w' ∧ w'.ownsT w.heap.size e v' l ∧ Below w.heap.size w w' := by
 have hr := run_bytes_of_string (P := P) w src dst e ⟨l.toArray⟩ hs hd he
 rw [size_of] at hr
 have hge := grownCap_ge w l.length 0 e
 have hcm := grownCap_le_maxLen w l.length 0 e hl
 have hsz : (bytesRow ⟨l.toArray⟩ (grownCap w l.length 0 e)).size = grownCap w l.length 0 e := by
  unfold bytesRow
  rw [size_of]
  simp
  omega
 refine ⟨_, _, hr, ⟨w.heap.size, _, _, _, rfl, Nat.le_refl _, heap_alloc_new w.drew _, fun j hj h => by simp only at h; omega, hge, hcm, hsz, ?_⟩, ((Below.refl _ _).drew).alloc (Nat.le_refl _) _⟩
 have e1 : (bytesRow ⟨l.toArray⟩ (grownCap w l.length 0 e)).toList = (l.map fun b => Value.int .u8 b.toNat) ++ List.replicate (grownCap w l.length 0 e - l.length) (.int .u8 0) := by
  unfold bytesRow
  rw [size_of]
  simp
 rw [e1]
 exact List.take_left' (by rw [List.length_map])
theorem run_string_T (src dst e : TypeId) (base : Nat) (v : Value) (l : List UInt8) (hs : P.underlying src = some (.slice e)) (he : P.underlying e = some (.int .u8)) (hd : P.underlying dst = some .string) (hown : w.ownsT base e v l) :
 (convert src dst v).run P w = .ok (.string ⟨l.toArray⟩) w := by
 obtain ⟨g, cap, cur, fz, rfl, hbg, hg, hfz, hnc, hcm, hcs, htake⟩ := hown
 refine run_convert_bytes_back (P := P) w src dst e ⟨g, 0, none⟩ cap l hs he hd (fun j hj => ?_)
 rw [Addr.add_lit, Nat.zero_add, cell_of_row w g j cur e fz hg]
 have h1 : (cur.toList.take l.length)[j]? = some (.int .u8 (l[j].toNat : Int)) := by rw [htake]; simp [hj]
 rw [List.getElem?_take, if_pos hj] at h1
 simpa using h1
end
end Go
