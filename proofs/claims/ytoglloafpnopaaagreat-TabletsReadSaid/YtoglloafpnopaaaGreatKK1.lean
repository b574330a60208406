/- Plain facts, no program in sight: the keys of cells as lists of bytes, how they are parsed, and their order. No condition but those that each theorem names. The walks of keys: the keys of spans' cells, stretches. The walks of keys and of the reference's: keys of cells, stretches. The walks of keys.Parse and what it calls. The walk of keys.Parse. The walks of the reference's Parse, and of both Rows. The walk of the reference's Parse at an index key. -/
import Derived.Test.YtoglloafpnopaaaGreatTA
import Derived.Test.YtoglloafpnopaaaGreatTB
import Derived.Test.YtoglloafpnopaaaGreatKS1
import Derived.WalkKit
import Derived.Deep.RegionHeld3
import Derived.Deep.DeepCutAuto
set_option linter.unusedSimpArgs false
set_option linter.unusedVariables false
namespace Spoor
open Go
def nz (l : List UInt8) : Bool := l.all fun c => c != 0
structure KP where
 kind : Nat
 tr : Int
 id : Int
 st : Int
 sv : List UInt8
 ho : List UInt8
 deriving DecidableEq
def KP.zero : KP := ⟨0, 0, 0, 0, [], []⟩
def idOk (n : Int) : Bool := decide (1 ≤ n) && decide (n ≤ 2147483647)
def sKey (tr id : Int) : List UInt8 := 115 :: (big tr.toNat ++ big id.toNat)
def xKey (sv ho : List UInt8) (st tr id : Int) : List UInt8 := 120 :: (sv ++ 0 :: (ho ++ 0 :: (big st.toNat ++ (big tr.toNat ++ big id.toNat))))
def KP.like (p : KP) : Sp := if p.kind = 115 then ⟨p.tr, p.id, 0, [115], [115], p.st, 0, []⟩ else ⟨p.tr, p.id, 0, p.sv, p.ho, p.st, 0, []⟩
def KP.key (p : KP) : Option (List UInt8) :=
 if p.like.ok = true then some (if p.kind = 115 then sKey p.tr p.id else xKey p.sv p.ho p.st p.tr p.id) else none
def ofKey (tr id : Int) : Option (List UInt8) := if (idOk tr && idOk id) = true then some (sKey tr id) else none
theorem ok_s (tr id st : Int) : (⟨tr, id, 0, [115], [115], st, 0, []⟩ : Sp).ok = (idOk tr && idOk id && (decide (0 ≤ st) && decide (st ≤ 1073741824))) := by
 have h1 : nameOk [115] = true := by decide
 unfold Sp.ok numOk idOk
 simp only [Sp.num, leastOf, mostOf, h1]
 simp
theorem ofKey_key (tr id : Int) : (⟨115, tr, id, 0, [], []⟩ : KP).key = ofKey tr id := by
 unfold KP.key ofKey KP.like
 simp only [if_true, ok_s]
 simp
def cut0 (l : List UInt8) : List UInt8 × List UInt8 × Bool := (l.takeWhile (· != 0), (l.dropWhile (· != 0)).drop 1, !nz l)
theorem cut0_true {l : List UInt8} (h : (cut0 l).2.2 = true) : l = (cut0 l).1 ++ 0 :: (cut0 l).2.1 := by
 induction l with
 | nil => simp [cut0, nz] at h
 | cons c l ih =>
   by_cases hc : c = 0
   · subst hc; simp [cut0]
   · have hc' : (c != 0) = true := by simpa using hc
     have h' : (cut0 l).2.2 = true := by
      simp only [cut0, nz, List.all_cons, hc', Bool.true_and] at h ⊢
      exact h
     have := ih h'
     simp only [cut0, List.takeWhile_cons, List.dropWhile_cons, hc', if_true, List.cons_append] at this ⊢
     rw [← this]
theorem cut0_false {l : List UInt8} (h : (cut0 l).2.2 = false) : cut0 l = (l, [], false) := by
 induction l with
 | nil => rfl
 | cons c l ih =>
   by_cases hc : c = 0
   · subst hc; simp [cut0, nz] at h
   · have hc' : (c != 0) = true := by simpa using hc
     have h' : (cut0 l).2.2 = false := by
      simp only [cut0, nz, List.all_cons, hc', Bool.true_and] at h ⊢
      exact h
     have e := ih h'
     simp only [cut0, Prod.mk.injEq] at e
     simp only [cut0, List.takeWhile_cons, List.dropWhile_cons, hc', if_true, e, Prod.mk.injEq, true_and]
     simp only [nz, List.all_cons, hc', Bool.true_and]
     simpa [nz] using e.2.2
def big2 (l : List UInt8) : Option (Nat × Nat) :=
 if l.length = 16 then match ofBig l, ofBig (l.drop 8) with
  | some a, some b => some (a, b)
  | _, _ => none
 else none
def big3 (l : List UInt8) : Option (Nat × Nat × Nat) :=
 if l.length = 24 then match ofBig l, ofBig (l.drop 8), ofBig (l.drop 16) with
  | some a, some b, some c => some (a, b, c)
  | _, _, _ => none
 else none
theorem big2_some {l : List UInt8} {a b : Nat} (h : big2 l = some (a, b)) : a ≤ 9223372036854775807 ∧ b ≤ 9223372036854775807 ∧ l = big a ++ big b := by
 unfold big2 at h
 split at h
 · split at h
   · rename_i hl _ _ _ _ h1 h2
     simp only [Option.some.injEq, Prod.mk.injEq] at h
     obtain ⟨rfl, rfl⟩ := h
     obtain ⟨_, g1, g2⟩ := ofBig_some h1
     obtain ⟨_, g3, g4⟩ := ofBig_some h2
     refine ⟨g1, g3, ?_⟩
     rw [← g2, ← g4, List.take_of_length_le (l := l.drop 8) (by simp; omega), List.take_append_drop]
   · cases h
 · cases h
theorem big3_some {l : List UInt8} {a b c : Nat} (h : big3 l = some (a, b, c)) : a ≤ 9223372036854775807 ∧ b ≤ 9223372036854775807 ∧ c ≤ 9223372036854775807 ∧ l = big a ++ (big b ++ big c) := by
 unfold big3 at h
 split at h
 · split at h
   · rename_i hl _ _ _ _ _ _ h1 h2 h3
     simp only [Option.some.injEq, Prod.mk.injEq] at h
     obtain ⟨rfl, rfl, rfl⟩ := h
     obtain ⟨_, g1, g2⟩ := ofBig_some h1
     obtain ⟨_, g3, g4⟩ := ofBig_some h2
     obtain ⟨_, g5, g6⟩ := ofBig_some h3
     refine ⟨g1, g3, g5, ?_⟩
     have e : l.drop 16 = (l.drop 8).drop 8 := by rw [List.drop_drop]
     rw [← g2, ← g4, ← g6, List.take_of_length_le (l := l.drop 16) (by simp; omega), e, List.take_append_drop, List.take_append_drop]
   · cases h
 · cases h
def parseK : List UInt8 → Option KP
 | [] => none
 | c :: r =>
   if c = 115 then match big2 r with
    | some (t, i) => if (idOk t && idOk i) = true then some ⟨115, t, i, 0, [], []⟩ else none
    | none => none
   else if c = 120 then
    if (cut0 (cut0 r).2.1).2.2 = true then match big3 (cut0 (cut0 r).2.1).2.1 with
     | some (s, t, i) => if (⟨120, t, i, s, (cut0 r).1, (cut0 (cut0 r).2.1).1⟩ : KP).like.ok = true then some ⟨120, t, i, s, (cut0 r).1, (cut0 (cut0 r).2.1).1⟩ else none
     | none => none
    else none
   else none
theorem parseK_some {l : List UInt8} {p : KP} (h : parseK l = some p) : p.key = some l ∧ ((p.kind = 115 ∧ p.st = 0 ∧ p.sv = [] ∧ p.ho = []) ∨ p.kind = 120) := by
 match l, h with
 | [], h => cases h
 | c :: r, h =>
   rw [parseK] at h
   split at h
   · rename_i hc
     subst hc
     split at h
     · rename_i t i hb
       split at h
       · rename_i hok
         simp only [Option.some.injEq] at h
         subst h
         obtain ⟨g1, g2, g3⟩ := big2_some hb
         refine ⟨?_, .inl ⟨rfl, rfl, rfl, rfl⟩⟩
         rw [ofKey_key, ofKey, if_pos hok, sKey, g3]
         rfl
       · cases h
     · cases h
   · split at h
     · rename_i hc
       subst hc
       split at h
       · rename_i his
         split at h
         · rename_i s t i hb
           split at h
           · rename_i hok
             simp only [Option.some.injEq] at h
             subst h
             obtain ⟨g1, g2, g3, g4⟩ := big3_some hb
             refine ⟨?_, .inr rfl⟩
             unfold KP.key
             rw [if_pos hok, if_neg (by simp)]
             have e1 := cut0_true his
             have his2 : (cut0 r).2.2 = true := by
              cases hq : (cut0 r).2.2 with
              | true => rfl
              | false =>
                rw [cut0_false hq] at his
                simp [cut0, nz] at his
             have e2 := cut0_true his2
             rw [xKey]
             simp only [Int.toNat_natCast]
             rw [← g4, ← e1, ← e2]
           · cases h
         · cases h
       · cases h
     · cases h
def rowK (l : List UInt8) : List UInt8 :=
 match parseK l with
 | none => []
 | some p => if p.kind = 115 then l.take 9 else l
theorem sKey_length (a b : Int) : (sKey a b).length = 17 := by simp [sKey, big_length]
end Spoor
namespace Go.Proofs.YtoglloafpnopaaaGreat
set_option maxRecDepth 16000
open Go.RowKit Spoor
def bigs (ns : List Nat) : List UInt8 := (ns.map big).flatten
theorem bigs_snoc (ns : List Nat) (n : Nat) : bigs (ns ++ [n]) = bigs ns ++ big n := by simp [bigs]
theorem bigs_length (ns : List Nat) : (bigs ns).length = 8 * ns.length := by
 induction ns with
 | nil => rfl
 | cons n ns ih =>
   have : bigs (n :: ns) = big n ++ bigs ns := by simp [bigs]
   rw [this, List.length_append, big_length, ih, List.length_cons]
   omega
theorem bigs_take (ns : List Nat) (k : Nat) (h : k < ns.length) : bigs (ns.take (k + 1)) = bigs (ns.take k) ++ big (ns.getD k 0) := by
 rw [List.take_succ_eq_append_getElem h, bigs_snoc]
 simp [List.getD, h]
theorem big_ints (g : Nat) (ns : List Nat) (n : Nat) (w : World) (hl : ns.length = n) (hl3 : n ≤ 3) (hn : ∀ i, i < n → ns.getD i 0 ≤ 9223372036854775807) (hg : g < w.heap.size)
 (hc : ∀ i, i < n → w.cell? ⟨g, i, none⟩ = some (.int .i64 ((ns.getD i 0 : Nat) : Int))) :
 Calls Tryz.prog 132 #[.slice (some ⟨g, 0, none⟩) n n] w fun e w' => e = .returned (.string ⟨(bigs ns).toArray⟩) ∧ Below w.heap.size w w' := by
 have HL := Lib.hid hl
 have HC := Lib.hid hc
 have HN := Lib.hid hn
 clear hl hc hn
 go_enter Tryz.func132, Tryz.ntmps132
 go_wp2_with fail
 go_loopw [3, 5, 8] (fun s x i wr => ∃ k : Nat, k ≤ n ∧ i = .int .i64 k ∧ s = .string ⟨(bigs (ns.take k)).toArray⟩ ∧ Below w.heap.size w wr) (fun _ _ i _ => n - (intOf i).toNat)
 case atStart => exact ⟨0, by omega, rfl, rfl, Below.refl _ _⟩
 case round =>
  obtain ⟨k, hk, rfl, rfl, hb⟩ := hrel
  by_cases hlt : k < n
  · have hck := (hb.cell (p := ⟨g, k, none⟩) hg).trans (HC.out k hlt)
    have h63 := HN.out k hlt
    have hcb := fun W => big_nat (ns.getD k 0) W h63
    have HB := Lib.hid hcb
    have hlen : (bigs (ns.take k)).length ≤ 24 := by rw [bigs_length, List.length_take]; omega
    have hlen2 : (big (ns.getD k 0)).length ≤ 8 := by rw [big_length]; omega
    have HT := Lib.hid (bigs_take ns k (by rw [HL.out]; exact hlt))
    clear hcb h63
    generalize ns.getD k 0 = d at *
    generalize bigs (ns.take k) = A at *
    go_wp2_with fail
    refine (HB.out _).mono ?_
    rintro e w1 ⟨rfl, b1⟩
    go_wp2_with fail
    go_roundw
    case rel => exact ⟨k + 1, by omega, by go_num, by rw [HT.out, str_add], bt hb b1⟩
    case measure => simp [intOf]; omega
  · obtain rfl : k = n := by omega
    go_wp2_with fail
    go_ret
    exact ⟨by rw [List.take_of_length_le (by rw [HL.out]; exact Nat.le_refl _)]; rfl, hb⟩
theorem str_add_cons (c : UInt8) (l : List UInt8) : (⟨(c :: l).toArray⟩ : ByteArray) = ⟨#[c]⟩ ++ ⟨l.toArray⟩ := (ByteArray.mk_append_mk [c] l).symm
theorem new_cellK {W : World} {cs : Array Value} {t : TypeId} {i g : Nat} {v : Value} (hg : g = W.heap.size) (h : cs[i]? = some v) : (W.alloc (.cells cs t)).cell? ⟨g, i, none⟩ = some v := by
 subst hg
 rw [cell_of_row _ _ _ _ _ _ (heap_alloc_new W _)]
 exact h
theorem big_le (n : Nat) : (big n).length ≤ 8 := by rw [big_length]; omega
theorem bcell {W w1 : World} (hb : Below W.heap.size W w1) : (∀ b o, b < W.heap.size → w1.cell? ⟨b, o, none⟩ = W.cell? ⟨b, o, none⟩) ∧ (∀ b o, b < W.heap.size → w1.frozen? ⟨b, o, none⟩ = W.frozen? ⟨b, o, none⟩) :=
 ⟨fun b o h => hb.cell (p := ⟨b, o, none⟩) h, fun b o h => hb.frozen (p := ⟨b, o, none⟩) h⟩
theorem toNat_i {a : Int} (h : 0 ≤ a) : ((a.toNat : Nat) : Int) = a := by omega
theorem big_two (g : Nat) (a b : Int) (w : World) (ha : 0 ≤ a) (ha' : a ≤ 9223372036854775807) (hb : 0 ≤ b) (hb' : b ≤ 9223372036854775807) (hg : g < w.heap.size) (h0 : w.cell? ⟨g, 0, none⟩ = some (.int .i64 a)) (h1 : w.cell? ⟨g, 1, none⟩ = some (.int .i64 b)) :
 Calls Tryz.prog 132 #[.slice (some ⟨g, 0, none⟩) 2 2] w fun e w' => e = .returned (.string ⟨(big a.toNat ++ big b.toNat).toArray⟩) ∧ Below w.heap.size w w' := by
 have h := big_ints g [a.toNat, b.toNat] 2 w rfl (by omega) (fun i hi => by match i, hi with | 0, _ => simp; omega | 1, _ => simp; omega) hg (fun i hi => by match i, hi with | 0, _ => simp only [List.getD_cons_zero]; rw [h0, toNat_i ha] | 1, _ => simp only [List.getD_cons_succ, List.getD_cons_zero]; rw [h1, toNat_i hb])
 simpa [bigs] using h
theorem big_three (g : Nat) (a b c : Int) (w : World) (ha : 0 ≤ a) (ha' : a ≤ 9223372036854775807) (hb : 0 ≤ b) (hb' : b ≤ 9223372036854775807) (hc : 0 ≤ c) (hc' : c ≤ 9223372036854775807) (hg : g < w.heap.size) (h0 : w.cell? ⟨g, 0, none⟩ = some (.int .i64 a)) (h1 : w.cell? ⟨g, 1, none⟩ = some (.int .i64 b)) (h2 : w.cell? ⟨g, 2, none⟩ = some (.int .i64 c)) :
 Calls Tryz.prog 132 #[.slice (some ⟨g, 0, none⟩) 3 3] w fun e w' => e = .returned (.string ⟨(big a.toNat ++ (big b.toNat ++ big c.toNat)).toArray⟩) ∧ Below w.heap.size w w' := by
 have h := big_ints g [a.toNat, b.toNat, c.toNat] 3 w rfl (by omega) (fun i hi => by match i, hi with | 0, _ => simp; omega | 1, _ => simp; omega | 2, _ => simp; omega) hg (fun i hi => by match i, hi with | 0, _ => simp only [List.getD_cons_zero]; rw [h0, toNat_i ha] | 1, _ => simp only [List.getD_cons_succ, List.getD_cons_zero]; rw [h1, toNat_i hb] | 2, _ => simp only [List.getD_cons_succ, List.getD_cons_zero]; rw [h2, toNat_i hc])
 simpa [bigs] using h
def kpVal (p : KP) : Value := .agg #[.int .u8 p.kind, .int .i64 p.tr, .int .i64 p.id, .int .i64 p.st, .string ⟨p.sv.toArray⟩, .string ⟨p.ho.toArray⟩]
def likeOf (p : KP) : Sp := ⟨p.tr, p.id, 0, p.sv, p.ho, p.st, 0, []⟩
theorem like_any (p : KP) (w : World) :
 Calls Tryz.prog 130 #[kpVal p] w fun e w' => e = .returned (spVal (likeOf p)) ∧ Below w.heap.size w w' := by
 unfold kpVal spVal likeOf
 go_enter Tryz.func130, Tryz.ntmps130
 go_wp2_with fail
 exact bodyPost_ret (v := spVal (likeOf p)) (by simp [results, spVal, likeOf, Tryz.results130, go_sem]) rfl ⟨rfl, below_new2' _ _⟩
def PtAtK (b : Nat) (p : KP) (w : World) : Prop := w.heap[b]? = some (.cells #[.int .u8 p.kind, .int .i64 p.tr, .int .i64 p.id, .int .i64 p.st, .string ⟨p.sv.toArray⟩, .string ⟨p.ho.toArray⟩] 145 (0, 0))
theorem PtAtK.cell {b : Nat} {p : KP} {w : World} (h : PtAtK b p w) : w.cell? ⟨b, 0, none⟩ = some (.int .u8 p.kind) ∧ w.cell? ⟨b, 1, none⟩ = some (.int .i64 p.tr) ∧ w.cell? ⟨b, 2, none⟩ = some (.int .i64 p.id) ∧
 w.cell? ⟨b, 3, none⟩ = some (.int .i64 p.st) ∧ w.cell? ⟨b, 4, none⟩ = some (.string ⟨p.sv.toArray⟩) ∧ w.cell? ⟨b, 5, none⟩ = some (.string ⟨p.ho.toArray⟩) := by
 refine ⟨?_, ?_, ?_, ?_, ?_, ?_⟩ <;> (rw [cell_of_row w b _ _ _ _ h]; rfl)
theorem PtAtK.later {B b : Nat} {p : KP} {w w' : World} (h : PtAtK b p w) (hb : Below B w w') (hlt : b < B) : PtAtK b p w' := by
 unfold PtAtK; rw [hb.block b hlt]; exact h
theorem PtAtK.lt {b : Nat} {p : KP} {w : World} (h : PtAtK b p w) : b < w.heap.size := (Go.ltA h)
def boxK (p : KP) : Obj := .cells #[.int .u8 p.kind, .int .i64 p.tr, .int .i64 p.id, .int .i64 p.st, .string ⟨p.sv.toArray⟩, .string ⟨p.ho.toArray⟩] 145
theorem PtAtK.boxed (p : KP) (w : World) : PtAtK w.heap.size p (w.alloc (boxK p)) := heap_alloc_new w _
theorem PtAtK.alloc' {b : Nat} {p : KP} {w : World} (h : PtAtK b p w) (o : Obj) : PtAtK b p (w.alloc o) := (Below.heap_alloc w o b h.lt).trans h
def FitsK (p : KP) : Prop := p.sv.length ≤ 140737488351232 ∧ p.ho.length ≤ 140737488351232
def keyV : Option (List UInt8) → Value
 | none => .tuple #[.string ⟨#[]⟩, .bool false]
 | some l => .tuple #[.string ⟨l.toArray⟩, .bool true]
def boxS (x : Sp) : Obj := .cells #[.int .i64 x.tr, .int .i64 x.id, .int .i64 x.pa, .string ⟨x.sv.toArray⟩, .string ⟨x.ho.toArray⟩, .int .i64 x.st, .int .i64 x.du, .string ⟨x.no.toArray⟩] 183
theorem SpAt.names {b : Nat} {x : Sp} {w : World} (h : SpAt b x w) (u v : List UInt8) : SpAt b ⟨x.tr, x.id, x.pa, u, v, x.st, x.du, x.no⟩ ((w.setCell ⟨b, 3, none⟩ (.string ⟨u.toArray⟩)).setCell ⟨b, 4, none⟩ (.string ⟨v.toArray⟩)) := by
 have h1 := heap_setCell_same w b 3 _ _ (.string ⟨u.toArray⟩) h
 have h2 := heap_setCell_same _ b 4 _ _ (.string ⟨v.toArray⟩) h1
 unfold SpAt
 rw [h2]
 rfl
theorem key_s (p : KP) (w : World) (hk : p.kind = 115) :
 Calls Tryz.prog 104 #[kpVal p] w fun e w' => e = .returned (keyV p.key) ∧ Below w.heap.size w w' := by
 have cl := fun W => like_any p W
 have ck := fun W => check_any ⟨p.tr, p.id, 0, [115], [115], p.st, 0, []⟩ W ⟨by simp, by simp, by simp⟩
 have q1 := PtAtK.boxed p w
 have b1 := (Below.refl w.heap.size w).alloc (Nat.le_refl _) (boxK p)
 have hkb : ((p.kind : Int) == 115) = true := by rw [hk]; rfl
 have hix : ∀ W, (Instr.index 9 (.string ⟨#[115]⟩) (.int .i64 0)).run Tryz.prog W = .ok (.int .u8 115) W := fun _ => by kernel_rfl
 have hkey : p.key = if (⟨p.tr, p.id, 0, [115], [115], p.st, 0, []⟩ : Sp).ok = true then some (sKey p.tr p.id) else none := by
  unfold KP.key KP.like
  simp only [hk, if_true]
 have hb : (⟨p.tr, p.id, 0, [115], [115], p.st, 0, []⟩ : Sp).ok = true → (1 ≤ p.tr ∧ p.tr ≤ 2147483647) ∧ (1 ≤ p.id ∧ p.id ≤ 2147483647) := fun h => ⟨(ok_of h).1, (ok_of h).2.1⟩
 unfold checkV at ck
 generalize (⟨p.tr, p.id, 0, [115], [115], p.st, 0, []⟩ : Sp).ok = B at *
 unfold likeOf at cl
 try dsimp only at cl
 unfold kpVal boxK spVal at *
 try dsimp only at cl ck
 have CL := Lib.hid cl
 have CK := Lib.hid ck
 have HK := Lib.hid hkey
 have HB := Lib.hid hb
 clear hk cl ck hkey hb
 go_enter Tryz.func104, Tryz.ntmps104
 go_wp2_with fail
 generalize w.alloc _ = w1 at *
 have l1 := q1.lt
 obtain ⟨a0, a1, a2, a3, a4, a5⟩ := q1.cell
 go_wp2_with fail
 refine (CL.out _).mono ?_
 rintro e w2 ⟨rfl, b2⟩
 have q1 := (q1.later b2 l1).alloc' (boxS ⟨p.tr, p.id, 0, p.sv, p.ho, p.st, 0, []⟩)
 have q2 := SpAt.boxed ⟨p.tr, p.id, 0, p.sv, p.ho, p.st, 0, []⟩ w2
 have b3 := (bt b1 b2).alloc (bt b1 b2).size (boxS ⟨p.tr, p.id, 0, p.sv, p.ho, p.st, 0, []⟩)
 have ls := (bt b1 b2).size
 unfold boxS at q1 b3
 try dsimp only at q1 q2 b3
 clear a0 a1 a2 a3 a4 a5
 have hne : w.heap.size ≠ w2.heap.size := fun e => by have := b2.size; rw [e] at l1; omega
 go_upto_region 2 with fail
 generalize w2.heap.size = sp at *
 generalize w2.alloc _ = w3 at *
 obtain ⟨a0, a1, a2, a3, a4, a5⟩ := q1.cell
 obtain ⟨d0, d1, d2, d3, d4, d5, d6, d7⟩ := q2.cell
 obtain ⟨f0, f1, f2, f3, f4, f5, f6, f7⟩ := q2.frees
 try dsimp only at d0 d1 d2 d3 d4 d5 d6 d7
 go_quiet (fail)
 go_upto_region 4 with fail
 have q3 := q2.names (w := w3.drewN nq) [115] [115]
 have b4 := ((_root_.Go.below_drewN b3 nq).setCell (p := ⟨sp, 3, none⟩) ls (.string ⟨[115].toArray⟩)).setCell (p := ⟨sp, 4, none⟩) ls (.string ⟨[115].toArray⟩)
 have q4 : PtAtK w.heap.size p (((w3.drewN nq).setCell ⟨sp, 3, none⟩ (.string ⟨[115].toArray⟩)).setCell ⟨sp, 4, none⟩ (.string ⟨[115].toArray⟩)) := block_set (block_set q1 hne) hne
 try dsimp only at q3
 clear a0 a1 a2 a3 a4 a5 d0 d1 d2 d3 d4 d5 d6 d7 f0 f1 f2 f3 f4 f5 f6 f7
 generalize World.setCell (World.setCell _ _ _) _ _ = w4 at *
 obtain ⟨a0, a1, a2, a3, a4, a5⟩ := q4.cell
 obtain ⟨d0, d1, d2, d3, d4, d5, d6, d7⟩ := q3.cell
 have l4 := q4.lt
 try dsimp only at d0 d1 d2 d3 d4 d5 d6 d7
 cases B with
 | false =>
   go_wp2_with fail
   refine (CK.out _).mono ?_
   rintro e w5 ⟨rfl, b5⟩
   go_wp2_with fail
   go_ret2
   exact ⟨ret1 (by rw [HK.out]; rfl), bt b4 b5⟩
 | true =>
   go_wp2_with fail
   refine (CK.out _).mono ?_
   rintro e w5 ⟨rfl, b5⟩
   have q5 := q4.later b5 l4
   have b6 := bt b4 b5
   obtain ⟨⟨g1, g2⟩, g3, g4⟩ := HB.out (by first | rfl | trivial)
   clear a0 a1 a2 a3 a4 a5 d0 d1 d2 d3 d4 d5 d6 d7
   obtain ⟨a0, a1, a2, a3, a4, a5⟩ := q5.cell
   go_upto_region 6 with fail
   go_quiet (fail)
   go_wp2_with fail
   refine (big_two _ p.tr p.id _ (by omega) (by omega) (by omega) (by omega) (by simp) (new_cellK rfl rfl) (new_cellK rfl rfl)).mono ?_
   rintro e w6 ⟨rfl, b7⟩
   have l8 := big_le p.tr.toNat
   have l9 := big_le p.id.toNat
   have b8 := bt ((_root_.Go.below_drewN b6 nq).alloc (_root_.Go.below_drewN b6 nq).size _) b7
   go_wp2_with fail
   go_ret2
   exact ⟨ret1 (by have h := HK.out; simp only [if_true] at h; rw [h, keyV, sKey, str_add_cons]; rfl), b8⟩
theorem xKey_bytes (sv ho : List UInt8) (st tr id : Int) : (⟨(xKey sv ho st tr id).toArray⟩ : ByteArray) = ⟨#[120]⟩ ++ ⟨sv.toArray⟩ ++ ⟨#[0]⟩ ++ ⟨ho.toArray⟩ ++ ⟨#[0]⟩ ++ ⟨(big st.toNat ++ (big tr.toNat ++ big id.toNat)).toArray⟩ := by
 rw [str_add [120] sv, str_add _ [0], str_add _ ho, str_add _ [0], str_add]
 simp [xKey]
theorem key_x (p : KP) (w : World) (hk : p.kind ≠ 115) (hf : FitsK p) :
 Calls Tryz.prog 104 #[kpVal p] w fun e w' => e = .returned (keyV p.key) ∧ Below w.heap.size w w' := by
 have cl := fun W => like_any p W
 have ck := fun W => check_any ⟨p.tr, p.id, 0, p.sv, p.ho, p.st, 0, []⟩ W ⟨hf.1, hf.2, by simp⟩
 have q1 := PtAtK.boxed p w
 have b1 := (Below.refl w.heap.size w).alloc (Nat.le_refl _) (boxK p)
 have hkb : ((p.kind : Int) == 115) = false := by rw [beq_eq_false_iff_ne]; omega
 have hix : ∀ W, (Instr.index 9 (.string ⟨#[115]⟩) (.int .i64 0)).run Tryz.prog W = .ok (.int .u8 115) W := fun _ => by kernel_rfl
 have hkey : p.key = if (⟨p.tr, p.id, 0, p.sv, p.ho, p.st, 0, []⟩ : Sp).ok = true then some (xKey p.sv p.ho p.st p.tr p.id) else none := by
  unfold KP.key KP.like
  simp only [hk, if_false]
 have hb : (⟨p.tr, p.id, 0, p.sv, p.ho, p.st, 0, []⟩ : Sp).ok = true → (1 ≤ p.tr ∧ p.tr ≤ 2147483647) ∧ (1 ≤ p.id ∧ p.id ≤ 2147483647) ∧ (0 ≤ p.st ∧ p.st ≤ 1073741824) ∧ p.sv.length ≤ 12 ∧ p.ho.length ≤ 12 := fun h => ⟨(ok_of h).1, (ok_of h).2.1, (ok_of h).2.2.2.1, (nameOk_of (ok_of h).2.2.2.2.2.1).2, (nameOk_of (ok_of h).2.2.2.2.2.2.1).2⟩
 unfold checkV at ck
 generalize (⟨p.tr, p.id, 0, p.sv, p.ho, p.st, 0, []⟩ : Sp).ok = B at *
 unfold likeOf at cl
 try dsimp only at cl
 unfold kpVal boxK spVal at *
 try dsimp only at cl ck
 have CL := Lib.hid cl
 have CK := Lib.hid ck
 have HK := Lib.hid hkey
 have HB := Lib.hid hb
 clear hk cl ck hkey hb hf
 go_enter Tryz.func104, Tryz.ntmps104
 go_wp2_with fail
 generalize w.alloc _ = w1 at *
 have l1 := q1.lt
 obtain ⟨a0, a1, a2, a3, a4, a5⟩ := q1.cell
 go_wp2_with fail
 refine (CL.out _).mono ?_
 rintro e w2 ⟨rfl, b2⟩
 have q1 := (q1.later b2 l1).alloc' (boxS ⟨p.tr, p.id, 0, p.sv, p.ho, p.st, 0, []⟩)
 have q2 := SpAt.boxed ⟨p.tr, p.id, 0, p.sv, p.ho, p.st, 0, []⟩ w2
 have b3 := (bt b1 b2).alloc (bt b1 b2).size (boxS ⟨p.tr, p.id, 0, p.sv, p.ho, p.st, 0, []⟩)
 unfold boxS at q1 b3
 try dsimp only at q1 q2 b3
 clear a0 a1 a2 a3 a4 a5
 go_upto_region 2 with fail
 generalize w2.heap.size = sp at *
 generalize w2.alloc _ = w3 at *
 have l3 := q1.lt
 obtain ⟨a0, a1, a2, a3, a4, a5⟩ := q1.cell
 obtain ⟨d0, d1, d2, d3, d4, d5, d6, d7⟩ := q2.cell
 try dsimp only at d0 d1 d2 d3 d4 d5 d6 d7
 go_quiet (fail)
 go_upto_region 4 with fail
 cases B with
 | false =>
   go_wp2_with fail
   refine (CK.out _).mono ?_
   rintro e w5 ⟨rfl, b5⟩
   go_wp2_with fail
   go_ret2
   exact ⟨ret1 (by rw [HK.out]; rfl), bt (_root_.Go.below_drewN b3 _) b5⟩
 | true =>
   go_wp2_with fail
   refine (CK.out _).mono ?_
   rintro e w5 ⟨rfl, b5⟩
   have q5 : PtAtK w.heap.size p w5 := q1.later (w' := w5) (B := w3.heap.size) (by exact ((_root_.Go.below_drewN (Below.refl _ _) _).trans b5)) l3
   have b6 := bt (_root_.Go.below_drewN b3 nq) b5
   obtain ⟨⟨g1, g2⟩, ⟨g3, g4⟩, ⟨g5, g6⟩, g7, g8⟩ := HB.out (by first | rfl | trivial)
   clear a0 a1 a2 a3 a4 a5 d0 d1 d2 d3 d4 d5 d6 d7
   obtain ⟨a0, a1, a2, a3, a4, a5⟩ := q5.cell
   have l5 := q5.lt
   go_upto_region 6 with fail
   go_quiet (fail)
   have l7 := big_le p.st.toNat
   have l8 := big_le p.tr.toNat
   have l9 := big_le p.id.toNat
   have l10 : w.heap.size < w5.heap.size + 1 := by omega
   have s1 : ¬ 9223372036854775807 < 1 + p.sv.length := by omega
   have s2 : ¬ 9223372036854775807 < 1 + p.sv.length + 1 := by omega
   have s3 : ¬ 9223372036854775807 < 1 + p.sv.length + 1 + p.ho.length := by omega
   have s4 : ¬ 9223372036854775807 < 1 + p.sv.length + 1 + p.ho.length + 1 := by omega
   have s5 : ¬ 9223372036854775807 < 1 + p.sv.length + 1 + p.ho.length + 1 + ((big p.st.toNat).length + ((big p.tr.toNat).length + (big p.id.toNat).length)) := by omega
   go_upto_region 8 with fail
   go_region_held3 (fun W => W.cell? ⟨w.heap.size, 1, none⟩ = some (.int .i64 p.tr) ∧ W.cell? ⟨w.heap.size, 2, none⟩ = some (.int .i64 p.id) ∧ W.cell? ⟨w.heap.size, 3, none⟩ = some (.int .i64 p.st) ∧ W.cell? ⟨w.heap.size, 4, none⟩ = some (.string ⟨p.sv.toArray⟩) ∧ W.cell? ⟨w.heap.size, 5, none⟩ = some (.string ⟨p.ho.toArray⟩)) (go_keep)
    (first | (go_at_call 132; refine (big_three _ p.st p.tr p.id _ (by omega) (by omega) (by omega) (by omega) (by omega) (by omega) (by simp) (new_cellK rfl rfl) (new_cellK rfl rfl) (new_cellK rfl rfl)).mono ?_; rintro e w6 ⟨rfl, b7⟩; obtain ⟨hcl, hfr⟩ := bcell b7))
   have b8 := bt ((_root_.Go.below_drewN b6 _).alloc (_root_.Go.below_drewN b6 _).size _) b7
   go_wp2_with fail
   go_ret2
   refine ⟨ret1 ?_, b8⟩
   have h := HK.out
   simp only [if_true] at h
   rw [h, keyV, xKey_bytes]
   rfl
theorem refNumber_any (n : Int) (w : World) : Calls Tryz.prog 106 #[.int .i64 n] w fun e w' => e = .returned (.bool (idOk n)) ∧ w = w' := by
 unfold idOk
 by_cases h1 : 1 ≤ n
 · by_cases h2 : n ≤ 2147483647
   · rw [decide_eq_true h1, decide_eq_true h2]
     go_enter Tryz.func106, Tryz.ntmps106
     go_wp2_with fail
     go_ret
     exact ⟨rfl, rfl⟩
   · rw [decide_eq_true h1, decide_eq_false h2]
     go_enter Tryz.func106, Tryz.ntmps106
     go_wp2_with fail
     go_ret
     exact ⟨rfl, rfl⟩
 · rw [decide_eq_false h1, Bool.false_and]
   go_enter Tryz.func106, Tryz.ntmps106
   go_wp2_with fail
   go_ret
   exact ⟨rfl, rfl⟩
theorem turn_back {f : FuncId} {args : Array Value} {w : World} {v : Value} (h : Calls Tryz.prog f args w fun e w' => e = .returned v ∧ w' = w) : Calls Tryz.prog f args w fun e w' => e = .returned v ∧ w = w' :=
 h.mono fun _ _ ⟨a, b⟩ => ⟨a, b.symm⟩
theorem idx_zero : ∀ l : List UInt8, Lib.indexByte l 0 = if nz l = true then -1 else ((l.takeWhile (· != 0)).length : Int)
 | [] => rfl
 | c :: l => by
   have ih := idx_zero l
   by_cases hc : c = 0
   · subst hc; simp [Lib.indexByte, nz]
   · have h1 : (c == 0) = false := by simpa using hc
     have h2 : (c != 0) = true := by simpa using hc
     rw [Lib.indexByte, ih]
     simp only [h1, Bool.false_eq_true, if_false, nz, List.all_cons, h2, Bool.true_and, List.takeWhile_cons, if_true, List.length_cons]
     by_cases hn : (l.all fun c => c != 0) = true
     · simp [hn]
     · simp only [hn, Bool.false_eq_true, if_false]
       have : ¬ (((l.takeWhile (· != 0)).length : Int) == -1) = true := by simp
       rw [if_neg this]
       omega
def cutV (l : List UInt8) : Value := .tuple #[.string ⟨(cut0 l).1.toArray⟩, .string ⟨(cut0 l).2.1.toArray⟩, .bool (cut0 l).2.2]
theorem slice_rest (l : List UInt8) (i : Nat) (I : Int) (hI : I = i) (h1 : i ≤ l.length) (W : World) :
 (Instr.slice 9 (.string ⟨l.toArray⟩) (some (.int .i64 I)) none none).run Tryz.prog W = .ok (.string ⟨(l.drop i).toArray⟩) W := by
 subst hI
 go_simp
 rw [extract_bytes]
 simp [List.take_of_length_le]
theorem slice_head (l : List UInt8) (j : Nat) (J : Int) (hJ : J = j) (h2 : j ≤ l.length) (W : World) :
 (Instr.slice 9 (.string ⟨l.toArray⟩) none (some (.int .i64 J)) none).run Tryz.prog W = .ok (.string ⟨(l.take j).toArray⟩) W := by
 subst hJ
 go_simp
 rw [extract_bytes]
 simp
theorem cut0_len {l : List UInt8} (h : nz l = false) : (cut0 l).1.length + 1 + (cut0 l).2.1.length = l.length ∧ (cut0 l).1 = l.take (cut0 l).1.length ∧ (cut0 l).2.1 = l.drop ((cut0 l).1.length + 1) := by
 have e := cut0_true (l := l) (by simp [cut0, h])
 generalize (cut0 l).1 = u at *
 generalize (cut0 l).2.1 = r at *
 subst e
 refine ⟨by simp; omega, by simp, ?_⟩
 rw [List.drop_append]
 simp
theorem slCut_any (l : List UInt8) (hl : l.length ≤ 140737488351232) (w : World) :
 Calls Tryz.prog 129 #[.string ⟨l.toArray⟩, .string ⟨#[0]⟩] w fun e w' => e = .returned (cutV l) ∧ Below w.heap.size w w' := by
 have c1 := fun W => turn_back (Tryz.stringslite_Index_one ⟨l.toArray⟩ 0 W)
 rw [show (⟨l.toArray⟩ : ByteArray).data.toList = l from rfl, idx_zero l] at c1
 cases hn : nz l with
 | true =>
   have e : cut0 l = (l, [], false) := cut0_false (by simp [cut0, hn])
   unfold cutV
   rw [e]
   rw [hn] at c1
   have C1 := Lib.hid c1
   clear c1 hn e
   go_enter Tryz.func129, Tryz.ntmps129
   go_wp2_with fail
   refine (C1.out _).mono ?_
   rintro e w1 ⟨rfl, rfl⟩
   go_wp2_with fail
   go_ret3
   exact ⟨rfl, Below.refl _ _⟩
 | false =>
   obtain ⟨h1, h2, h3⟩ := cut0_len hn
   have e : (cut0 l).2.2 = true := by simp [cut0, hn]
   unfold cutV
   rw [e]
   rw [hn] at c1
   have e1 : (l.takeWhile (· != 0)) = (cut0 l).1 := rfl
   rw [e1] at c1
   generalize (cut0 l).1 = u at *
   generalize (cut0 l).2.1 = r at *
   obtain ⟨i, hi⟩ : ∃ i, u.length = i := ⟨_, rfl⟩
   rw [hi] at h1 h2 h3 c1
   have hs1 := slice_head l i (i : Int) rfl (by omega)
   have hs2 := slice_rest l (i + 1) ((i : Int) + 1) (by omega) (by omega)
   rw [← h2] at hs1
   rw [← h3] at hs2
   have C1 := Lib.hid c1
   clear c1 hn e e1 h2 h3 hi
   go_enter Tryz.func129, Tryz.ntmps129
   go_wp2_with fail
   refine (C1.out _).mono ?_
   rintro e w1 ⟨rfl, rfl⟩
   have hwr : IntKind.i64.wrap ((i : Int) + 1) = (i : Int) + 1 := IntWalk.i64_in _ (by omega)
   go_wp2_with fail
   go_quiet (fail)
   go_wp2_with fail
   go_ret3
   exact ⟨rfl, _root_.Go.below_drewN (Below.refl _ _) _⟩
theorem cut_any (l : List UInt8) (hl : l.length ≤ 140737488351232) (w : World) :
 Calls Tryz.prog 103 #[.string ⟨l.toArray⟩, .string ⟨#[0]⟩] w fun e w' => e = .returned (cutV l) ∧ Below w.heap.size w w' := by
 have c1 := fun W => slCut_any l hl W
 have C1 := Lib.hid c1
 unfold cutV at *
 clear c1
 go_enter Tryz.func103, Tryz.ntmps103
 go_wp2_with fail
 refine (C1.out _).mono ?_
 rintro e w1 ⟨rfl, b1⟩
 go_wp2_with fail
 go_ret3
 exact ⟨rfl, b1⟩
def KP.setN (p : KP) (f : Nat) (n : Int) : KP := match f with
 | 1 => ⟨p.kind, n, p.id, p.st, p.sv, p.ho⟩
 | 2 => ⟨p.kind, p.tr, n, p.st, p.sv, p.ho⟩
 | _ => ⟨p.kind, p.tr, p.id, n, p.sv, p.ho⟩
def numRun : KP → List Nat → List UInt8 → KP × Bool
 | p, [], _ => (p, true)
 | p, f :: fs, l => match ofBig l with
   | none => (p, false)
   | some n => numRun (KP.setN p f n) fs (l.drop 8)
theorem PtAtK.setN {b : Nat} {p : KP} {w : World} (h : PtAtK b p w) (f : Nat) (h1 : 1 ≤ f) (h3 : f ≤ 3) (n : Int) : PtAtK b (KP.setN p f n) (w.setCell ⟨b, f, none⟩ (.int .i64 n)) := by
 unfold PtAtK at h ⊢
 rw [heap_setCell_same w b _ _ _ _ h]
 match f, h1, h3 with
 | 1, _, _ => rfl
 | 2, _, _ => rfl
 | 3, _, _ => rfl
theorem PtAtK.free {b : Nat} {p : KP} {w : World} (h : PtAtK b p w) (j : Nat) : w.frozen? ⟨b, j, none⟩ = false := frozen_of_row w b j _ _ h
theorem PtAtK.frees {b : Nat} {p : KP} {w : World} (h : PtAtK b p w) : w.frozen? ⟨b, 0, none⟩ = false ∧ w.frozen? ⟨b, 1, none⟩ = false ∧ w.frozen? ⟨b, 2, none⟩ = false ∧ w.frozen? ⟨b, 3, none⟩ = false ∧ w.frozen? ⟨b, 4, none⟩ = false ∧ w.frozen? ⟨b, 5, none⟩ = false :=
 ⟨h.free 0, h.free 1, h.free 2, h.free 3, h.free 4, h.free 5⟩
theorem PtAtK.num {b : Nat} {p : KP} {w : World} (h : PtAtK b p w) (f : Nat) (h1 : 1 ≤ f) (h3 : f ≤ 3) : ∃ v, w.cell? ⟨b, f, none⟩ = some (.int .i64 v) := by
 obtain ⟨_, a1, a2, a3, _, _⟩ := h.cell
 match f, h1, h3 with
 | 1, _, _ => exact ⟨_, a1⟩
 | 2, _, _ => exact ⟨_, a2⟩
 | 3, _, _ => exact ⟨_, a3⟩
def NumPost (b : Nat) (r : KP × Bool) (w : World) (e : Ending) (w' : World) : Prop := e = .returned (.bool r.2) ∧ PtAtK b r.1 w' ∧ Below b w w'
theorem drop_run {fs : List Nat} {k : Nat} (h : k < fs.length) : fs.drop k = fs.getD k 0 :: fs.drop (k + 1) := by
 rw [List.drop_eq_getElem_cons h]; simp [List.getD, h]
theorem numbers_short (s : ByteArray) (b g n : Nat) (p : KP) (w : World) (hs : s.size ≤ maxLen) (hn3 : n ≤ 3) (hsz : s.size ≠ 8 * n) (hq : PtAtK b p w) :
 Calls Tryz.prog 102 #[.string s, .slice (some ⟨g, 0, none⟩) n n] w (NumPost b (p, false) w) := by
 unfold maxLen at hs
 have h1 : ¬ (s.size : Int) = 8 * (n : Int) := by omega
 clear hsz
 go_enter Tryz.func102, Tryz.ntmps102
 go_wp2_with fail
 go_ret
 exact ⟨rfl, hq, Below.refl _ _⟩
theorem numbers_full (s : ByteArray) (b g n : Nat) (fs : List Nat) (p : KP) (w : World) (hs : s.size ≤ maxLen) (hl : fs.length = n) (hn3 : n ≤ 3) (hsz : s.size = 8 * n) (hq : PtAtK b p w)
 (hgb : g ≠ b) (hfs : ∀ i, i < n → 1 ≤ fs.getD i 0 ∧ fs.getD i 0 ≤ 3) (hc : ∀ i, i < n → w.cell? ⟨g, i, none⟩ = some (.pointer (some ⟨b, fs.getD i 0, none⟩))) :
 Calls Tryz.prog 102 #[.string s, .slice (some ⟨g, 0, none⟩) n n] w (NumPost b (numRun p fs s.data.toList) w) := by
 have HS := Lib.hid hs
 unfold maxLen at hs
 have h1 : (s.size : Int) = 8 * (n : Int) := by omega
 have HL := Lib.hid hl
 have HF := Lib.hid hfs
 have HC := Lib.hid hc
 have HQ := Lib.hid hq
 obtain ⟨R, hR⟩ : ∃ R, NumPost b (numRun p fs s.data.toList) w = R := ⟨_, rfl⟩
 rw [hR]
 have HR := Lib.hid hR
 clear hsz hl hfs hc hR hq
 go_enter Tryz.func102, Tryz.ntmps102
 go_wp2_with fail
 go_loopw [17] (fun i wr => ∃ (k : Nat) (q : KP), k ≤ n ∧ i = .int .i64 k ∧ Hid (PtAtK b q wr) ∧ Hid (numRun p fs s.data.toList = numRun q (fs.drop k) (s.data.toList.drop (8 * k))) ∧ Hid (Below b w wr) ∧ Hid (wr.heap[g]? = w.heap[g]?)) (fun i _ => n - (intOf i).toNat)
 case atStart => exact ⟨0, p, by omega, rfl, HQ.out, by show _ = _; simp, Below.refl _ _, rfl⟩
 case round =>
  obtain ⟨k, q, hk, rfl, hq, hrun, hb, hg⟩ := hrel
  by_cases hlt : k < n
  · have hck : wr.cell? ⟨g, k, none⟩ = some (.pointer (some ⟨b, fs.getD k 0, none⟩)) := by
     rw [← HC.out k hlt]
     unfold World.cell?
     rw [hg.out]
    obtain ⟨f1, f3⟩ := HF.out k hlt
    have hd := drop_run (fs := fs) (k := k) (by rw [HL.out]; exact hlt)
    have hst := hrun.out
    rw [hd, numRun] at hst
    have HSt := Lib.hid hst
    obtain ⟨v0, hv0⟩ := hq.out.num (fs.getD k 0) f1 f3
    have hfz := hq.out.free (fs.getD k 0)
    have c := fun W => ofBig_any s (8 * (k : Int)) W HS.out
    have e8 : (8 * (k : Int)).toNat = 8 * k := by omega
    unfold ofBigAt at c
    rw [if_neg (by omega), e8] at c
    clear hst hd e8
    generalize fs.getD k 0 = f at *
    cases hof : ofBig (s.data.toList.drop (8 * k)) with
    | none =>
      rw [hof] at c
      have hst := HSt.out
      rw [hof] at hst
      have HSt := Lib.hid hst
      unfold ofBigV at c
      have C := Lib.hid c
      clear c hof hst
      go_wp2_with fail
      refine (C.out _).mono ?_
      rintro e w1 ⟨rfl, rfl⟩
      go_wp2_with fail
      rw [← HR.out, HSt.out]
      exact ⟨rfl, hq.out, hb.out⟩
    | some m =>
      rw [hof] at c
      have hst := HSt.out
      rw [hof] at hst
      simp only [List.drop_drop] at hst
      have HSt := Lib.hid hst
      unfold ofBigV at c
      have C := Lib.hid c
      have q1 := Lib.hid (hq.out.setN f f1 f3 (m : Int))
      have hb1 := Lib.hid (hb.out.setCell (p := ⟨b, f, none⟩) (Nat.le_refl _) (.int .i64 (m : Int)))
      have hg1 : Hid ((wr.setCell ⟨b, f, none⟩ (.int .i64 (m : Int))).heap[g]? = w.heap[g]?) := by
       show _ = _
       rw [Below.heap_setCell wr ⟨b, f, none⟩ _ g hgb]
       exact hg.out
      clear c hof hst
      go_wp2_with fail
      refine (C.out _).mono ?_
      rintro e w1 ⟨rfl, rfl⟩
      go_wp2_with fail
      go_roundw
      case rel => exact ⟨k + 1, _, by omega, by go_num, q1.out, by show _ = _; rw [HSt.out, show 8 * k + 8 = 8 * (k + 1) by omega], hb1.out, hg1.out⟩
      case measure => simp [intOf]; omega
  · obtain rfl : k = n := by omega
    have hst := hrun.out
    rw [List.drop_of_length_le (l := fs) (by rw [HL.out]; exact Nat.le_refl _), numRun] at hst
    have HSt := Lib.hid hst
    clear hst
    go_wp2_with fail
    rw [← HR.out, HSt.out]
    exact ⟨rfl, hq.out, hb.out⟩
def numOf (p : KP) (fs : List Nat) (l : List UInt8) : KP × Bool := if l.length = 8 * fs.length then numRun p fs l else (p, false)
theorem knumbers_any (l : List UInt8) (b g n : Nat) (fs : List Nat) (p : KP) (w : World) (hs : l.length ≤ 140737488351232) (hl : fs.length = n) (hn3 : n ≤ 3) (hq : PtAtK b p w)
 (hgb : g ≠ b) (hfs : ∀ i, i < n → 1 ≤ fs.getD i 0 ∧ fs.getD i 0 ≤ 3) (hc : ∀ i, i < n → w.cell? ⟨g, i, none⟩ = some (.pointer (some ⟨b, fs.getD i 0, none⟩))) :
 Calls Tryz.prog 102 #[.string ⟨l.toArray⟩, .slice (some ⟨g, 0, none⟩) n n] w (NumPost b (numOf p fs l) w) := by
 unfold numOf
 by_cases h : l.length = 8 * fs.length
 · rw [if_pos h]
   exact numbers_full ⟨l.toArray⟩ b g n fs p w (mk_max hs) hl hn3 (by simp only [ByteArray.size_mk', List.size_toArray]; omega) hq hgb hfs hc
 · rw [if_neg h]
   exact numbers_short ⟨l.toArray⟩ b g n p w (mk_max hs) hn3 (by simp only [ByteArray.size_mk', List.size_toArray]; omega) hq
theorem numRun_same : ∀ (fs : List Nat) (p : KP) (l : List UInt8), (numRun p fs l).1.kind = p.kind ∧ (numRun p fs l).1.sv = p.sv ∧ (numRun p fs l).1.ho = p.ho
 | [], p, l => ⟨rfl, rfl, rfl⟩
 | f :: fs, p, l => by
   rw [numRun]
   cases ofBig l with
   | none => exact ⟨rfl, rfl, rfl⟩
   | some n =>
     obtain ⟨h1, h2, h3⟩ := numRun_same fs (KP.setN p f n) (l.drop 8)
     simp only [h1, h2, h3]
     unfold KP.setN
     split <;> exact ⟨rfl, rfl, rfl⟩
theorem numOf_same (fs : List Nat) (p : KP) (l : List UInt8) : (numOf p fs l).1.kind = p.kind ∧ (numOf p fs l).1.sv = p.sv ∧ (numOf p fs l).1.ho = p.ho := by
 unfold numOf
 split
 · exact numRun_same fs p l
 · exact ⟨rfl, rfl, rfl⟩
theorem numOf2 (r : List UInt8) : match big2 r with
 | some (a, b) => numOf ⟨115, 0, 0, 0, [], []⟩ [1, 2] r = (⟨115, a, b, 0, [], []⟩, true)
 | none => (numOf ⟨115, 0, 0, 0, [], []⟩ [1, 2] r).2 = false := by
 unfold big2 numOf
 simp only [List.length_cons, List.length_nil]
 by_cases h : r.length = 16
 · rw [if_pos h, if_pos h]
   simp only [numRun]
   cases ofBig r with
   | none => rfl
   | some a => cases ofBig (r.drop 8) with
     | none => rfl
     | some b => rfl
 · rw [if_neg h, if_neg h]
theorem numOf3 (r sv ho : List UInt8) : match big3 r with
 | some (a, b, c) => numOf ⟨120, 0, 0, 0, sv, ho⟩ [3, 1, 2] r = (⟨120, b, c, a, sv, ho⟩, true)
 | none => (numOf ⟨120, 0, 0, 0, sv, ho⟩ [3, 1, 2] r).2 = false := by
 unfold big3 numOf
 simp only [List.length_cons, List.length_nil]
 by_cases h : r.length = 24
 · rw [if_pos h, if_pos h]
   simp only [numRun, List.drop_drop]
   cases ofBig r with
   | none => rfl
   | some a => cases ofBig (r.drop 8) with
     | none => rfl
     | some b => cases ofBig (r.drop 16) with
       | none => rfl
       | some c => rfl
 · rw [if_neg h, if_neg h]
def resK (p : KP) (b : Bool) (l : List UInt8) : Option KP := if b = true ∧ p.key = some l then some p else none
theorem resK_no (p : KP) (l : List UInt8) : resK p false l = none := by unfold resK; simp
theorem parse_s (r : List UInt8) : parseK (115 :: r) = resK (numOf ⟨115, 0, 0, 0, [], []⟩ [1, 2] r).1 (numOf ⟨115, 0, 0, 0, [], []⟩ [1, 2] r).2 (115 :: r) := by
 have h := numOf2 r
 rw [parseK, if_pos rfl]
 cases hb : big2 r with
 | none =>
   rw [hb] at h
   simp only at h
   rw [h, resK_no]
 | some q =>
   obtain ⟨a, b⟩ := q
   rw [hb] at h
   simp only at h ⊢
   obtain ⟨g1, g2, g3⟩ := big2_some hb
   rw [h]
   unfold resK
   simp only [ofKey_key, true_and]
   unfold ofKey
   by_cases hok : (idOk (a : Int) && idOk (b : Int)) = true
   · rw [if_pos hok, if_pos hok, if_pos]
     rw [sKey, g3]; rfl
   · rw [if_neg hok, if_neg hok, if_neg (by simp)]
theorem parse_x (r : List UInt8) (his : (cut0 (cut0 r).2.1).2.2 = true) : parseK (120 :: r) =
 resK (numOf ⟨120, 0, 0, 0, (cut0 r).1, (cut0 (cut0 r).2.1).1⟩ [3, 1, 2] (cut0 (cut0 r).2.1).2.1).1 (numOf ⟨120, 0, 0, 0, (cut0 r).1, (cut0 (cut0 r).2.1).1⟩ [3, 1, 2] (cut0 (cut0 r).2.1).2.1).2 (120 :: r) := by
 have h := numOf3 (cut0 (cut0 r).2.1).2.1 (cut0 r).1 (cut0 (cut0 r).2.1).1
 rw [parseK, if_neg (by decide), if_pos rfl, if_pos his]
 cases hb : big3 (cut0 (cut0 r).2.1).2.1 with
 | none =>
   rw [hb] at h
   simp only at h
   rw [h, resK_no]
 | some q =>
   obtain ⟨a, b, c⟩ := q
   rw [hb] at h
   simp only at h ⊢
   rw [h]
   unfold resK
   simp only [true_and]
   by_cases hok : (⟨120, b, c, a, (cut0 r).1, (cut0 (cut0 r).2.1).1⟩ : KP).like.ok = true
   · have hp : parseK (120 :: r) = some ⟨120, b, c, a, (cut0 r).1, (cut0 (cut0 r).2.1).1⟩ := by
      rw [parseK, if_neg (by decide), if_pos rfl, if_pos his, hb]
      simp only
      rw [if_pos hok]
     rw [if_pos hok, if_pos (parseK_some hp).1]
   · rw [if_neg hok, if_neg]
     unfold KP.key
     rw [if_neg hok]
     simp
theorem parse_not (r : List UInt8) (his : (cut0 (cut0 r).2.1).2.2 = false) : parseK (120 :: r) = none := by
 rw [parseK, if_neg (by decide), if_pos rfl, if_neg (by simp [his])]
theorem key_any (p : KP) (w : World) (hf : FitsK p) : Calls Tryz.prog 104 #[kpVal p] w fun e w' => e = .returned (keyV p.key) ∧ Below w.heap.size w w' := by
 by_cases h : p.kind = 115
 · exact key_s p w h
 · exact key_x p w h hf
def parseV : Option KP → Value
 | none => .tuple #[kpVal KP.zero, .bool false]
 | some p => .tuple #[kpVal p, .bool true]
def preB (l : List UInt8) (c : UInt8) : Bool := Lib.hasPrefix l [c]
def preT (l : List UInt8) (c : UInt8) : List UInt8 := Lib.trimPrefix l [c]
theorem pre_yes (c : UInt8) (r : List UInt8) : preB (c :: r) c = true ∧ preT (c :: r) c = r := by
 have h : preB (c :: r) c = true := by simp [preB, Lib.hasPrefix, List.isPrefixOf]
 refine ⟨h, ?_⟩
 unfold preB at h
 unfold preT Lib.trimPrefix
 rw [if_pos h]
 rfl
theorem pre_no (c : UInt8) (l : List UInt8) (h : ¬ l.head? = some c) : preB l c = false := by
 unfold preB Lib.hasPrefix
 cases l with
 | nil => rfl
 | cons d r =>
   have : (c == d) = false := by
    rw [beq_eq_false_iff_ne]
    intro e
    exact h (by rw [e]; rfl)
   simp [List.isPrefixOf, this]
theorem cutPre (l : List UInt8) (c : UInt8) (w : World) :
 Calls Tryz.prog 101 #[.string ⟨l.toArray⟩, .string ⟨#[c]⟩] w fun e w' => e = .returned (.tuple #[.string ⟨(preT l c).toArray⟩, .bool (preB l c)]) ∧ w = w' :=
 turn_back (Tryz.strings_CutPrefix ⟨l.toArray⟩ ⟨#[c]⟩ w)
theorem PtAtK.kind {b : Nat} {p : KP} {w : World} (h : PtAtK b p w) (k : Nat) : PtAtK b ⟨k, p.tr, p.id, p.st, p.sv, p.ho⟩ (w.setCell ⟨b, 0, none⟩ (.int .u8 k)) := by
 unfold PtAtK at h ⊢
 rw [heap_setCell_same w b _ _ _ _ h]
 rfl
theorem PtAtK.serv {b : Nat} {p : KP} {w : World} (h : PtAtK b p w) (u : List UInt8) : PtAtK b ⟨p.kind, p.tr, p.id, p.st, u, p.ho⟩ (w.setCell ⟨b, 4, none⟩ (.string ⟨u.toArray⟩)) := by
 unfold PtAtK at h ⊢
 rw [heap_setCell_same w b _ _ _ _ h]
 rfl
theorem PtAtK.host {b : Nat} {p : KP} {w : World} (h : PtAtK b p w) (u : List UInt8) : PtAtK b ⟨p.kind, p.tr, p.id, p.st, p.sv, u⟩ (w.setCell ⟨b, 5, none⟩ (.string ⟨u.toArray⟩)) := by
 unfold PtAtK at h ⊢
 rw [heap_setCell_same w b _ _ _ _ h]
 rfl
theorem parse_other {l : List UInt8} (h1 : ¬ l.head? = some 115) (h2 : ¬ l.head? = some 120) : parseK l = none := by
 cases l with
 | nil => rfl
 | cons c r =>
   simp only [List.head?_cons, Option.some.injEq] at h1 h2
   rw [parseK, if_neg h1, if_neg h2]
theorem head_cons {l : List UInt8} {c : UInt8} (h : l.head? = some c) : ∃ r, l = c :: r := by
 cases l with
 | nil => simp at h
 | cons d r => simp only [List.head?_cons, Option.some.injEq] at h; exact ⟨r, by rw [h]⟩
theorem keyV_form (o : Option (List UInt8)) : ∃ (x : List UInt8) (b : Bool), keyV o = .tuple #[.string ⟨x.toArray⟩, .bool b] := by
 cases o with
 | none => exact ⟨[], false, rfl⟩
 | some l => exact ⟨l, true, rfl⟩
theorem below_set6 {B b : Nat} {a W : World} (h : Below B a W) (hb : B ≤ b) (v0 v1 v2 v3 v4 v5 : Value) :
 Below B a ((((((W.setCell ⟨b, 0, none⟩ v0).setCell ⟨b, 1, none⟩ v1).setCell ⟨b, 2, none⟩ v2).setCell ⟨b, 3, none⟩ v3).setCell ⟨b, 4, none⟩ v4).setCell ⟨b, 5, none⟩ v5) :=
 (((((h.setCell (p := ⟨b, 0, none⟩) hb _).setCell (p := ⟨b, 1, none⟩) hb _).setCell (p := ⟨b, 2, none⟩) hb _).setCell (p := ⟨b, 3, none⟩) hb _).setCell (p := ⟨b, 4, none⟩) hb _).setCell (p := ⟨b, 5, none⟩) hb _
theorem cut0_le (l : List UInt8) : (cut0 l).1.length ≤ l.length ∧ (cut0 l).2.1.length ≤ l.length := by
 cases h : nz l with
 | true =>
   rw [cut0_false (by simp [cut0, h])]
   simp
 | false =>
   obtain ⟨h1, _, _⟩ := cut0_len h
   omega
set_option maxHeartbeats 1000000 in
theorem parse_any (l : List UInt8) (hl : l.length ≤ 140737488351232) (w : World) :
 Calls Tryz.prog 80 #[.string ⟨l.toArray⟩] w fun e w' => e = .returned (parseV (parseK l)) ∧ Below w.heap.size w w' := by
 have c1 := fun W => cutPre l 115 W
 have c2 := fun W => cutPre l 120 W
 obtain ⟨R, hR⟩ : ∃ R, parseV (parseK l) = R := ⟨_, rfl⟩
 rw [hR]
 have HR := Lib.hid hR
 have qr : PtAtK w.heap.size KP.zero ((w.alloc (boxK KP.zero)).alloc (boxK KP.zero)) := (PtAtK.boxed KP.zero w).alloc' _
 have qp : PtAtK (w.heap.size + 1) KP.zero ((w.alloc (boxK KP.zero)).alloc (boxK KP.zero)) := by
  have := PtAtK.boxed KP.zero (w.alloc (boxK KP.zero))
  rwa [alloc_size] at this
 have bw : Below w.heap.size w ((w.alloc (boxK KP.zero)).alloc (boxK KP.zero)) := below_new2' _ _
 have hi1 : ∀ W, (Instr.index 9 (.string ⟨#[115]⟩) (.int .i64 0)).run Tryz.prog W = .ok (.int .u8 115) W := fun _ => by kernel_rfl
 have hi2 : ∀ W, (Instr.index 9 (.string ⟨#[120]⟩) (.int .i64 0)).run Tryz.prog W = .ok (.int .u8 120) W := fun _ => by kernel_rfl
 have C1 := Lib.hid c1
 have C2 := Lib.hid c2
 clear c1 c2 hR
 unfold boxK KP.zero at *
 try dsimp only at qr qp bw
 go_enter Tryz.func80, Tryz.ntmps80
 go_wp2_with fail
 generalize World.alloc _ _ = w2 at *
 refine (C1.out _).mono ?_
 rintro e w1 ⟨rfl, rfl⟩
 go_upto_if 17 with fail
 go_cut [5, 7] (fun v _v7 wx => ∃ (p : KP) (b : Bool), v = .bool b ∧ Hid (PtAtK (w.heap.size + 1) p wx) ∧ Hid (PtAtK w.heap.size KP.zero wx) ∧ Hid (Below w.heap.size w wx) ∧ Hid (parseK l = resK p b l) ∧ Hid (FitsK p))
 case first =>
  have lp := qp.lt
  have hne : w.heap.size ≠ w.heap.size + 1 := by omega
  obtain ⟨a0, a1, a2, a3, a4, a5⟩ := qp.cell
  obtain ⟨f0, f1, f2, f3, f4, f5⟩ := qp.frees
  by_cases h1 : l.head? = some 115
  · obtain ⟨r, rfl⟩ := head_cons h1
    have hlr : r.length ≤ 140737488351232 := by simp at hl; omega
    obtain ⟨e1, e2⟩ := pre_yes 115 r
    have q3 := (qp.kind 115)
    have r3 := block_set (i := 0) (v := .int .u8 (115 : Nat)) qr hne
    have b3 := bw.setCell (p := ⟨w.heap.size + 1, 0, none⟩) (by simp) (.int .u8 (115 : Nat))
    clear h1 C2
    go_wp2_with fail
    refine (knumbers_any r (w.heap.size + 1) _ 2 [1, 2] ⟨115, 0, 0, 0, [], []⟩ _ hlr rfl (by omega) (q3.alloc' _) (by simp; omega) (fun i hi => by match i, hi with | 0, _ => simp | 1, _ => simp) (fun i hi => by match i, hi with | 0, _ => exact new_cellK (by simp) rfl | 1, _ => exact new_cellK (by simp) rfl)).mono ?_
    rintro e w3 ⟨rfl, q4, b4⟩
    go_wp2_with fail
    go_meet
    obtain ⟨s1, s2, s3⟩ := numOf_same [1, 2] ⟨115, 0, 0, 0, [], []⟩ r
    exact ⟨_, _, rfl, q4, PtAtK.later (PtAtK.alloc' (p := KP.zero) r3 _) b4 (by omega), (b3.alloc b3.size _).trans (b4.mono (by omega)), parse_s r, ⟨by rw [s2]; simp, by rw [s3]; simp⟩⟩
  · by_cases h2 : l.head? = some 120
    · obtain ⟨r, rfl⟩ := head_cons h2
      have hlr : r.length ≤ 140737488351232 := by simp at hl; omega
      obtain ⟨e1, e2⟩ := pre_yes 120 r
      have e3 := pre_no 115 _ h1
      have q3 := (qp.kind 120)
      have r3 := block_set (i := 0) (v := .int .u8 (120 : Nat)) qr hne
      have b3 := bw.setCell (p := ⟨w.heap.size + 1, 0, none⟩) (by simp) (.int .u8 (120 : Nat))
      have c3 := fun W => cut_any r hlr W
      obtain ⟨m1, m2⟩ := cut0_le r
      have c4 := fun W => cut_any (cut0 r).2.1 (by omega) W
      obtain ⟨m3, m4⟩ := cut0_le (cut0 r).2.1
      have hx := parse_x r
      have hn := parse_not r
      unfold cutV at c3 c4
      generalize (cut0 r).1 = sv at *
      generalize (cut0 r).2.1 = r1 at *
      generalize (cut0 r).2.2 = z at *
      have hs1 : sv.length ≤ 140737488351232 := by omega
      have hs2 : (cut0 r1).1.length ≤ 140737488351232 := by omega
      have hs3 : (cut0 r1).2.1.length ≤ 140737488351232 := by omega
      generalize (cut0 r1).1 = ho at *
      generalize (cut0 r1).2.1 = r2 at *
      generalize (cut0 r1).2.2 = is at *
      have C3 := Lib.hid c3
      have C4 := Lib.hid c4
      have HX := Lib.hid hx
      have HN := Lib.hid hn
      have HS1 := Lib.hid hs1
      have HS2 := Lib.hid hs2
      have HS3 := Lib.hid hs3
      clear h1 h2 c3 c4 hx hn m1 m2 m3 m4 hs1 hs2 hs3
      go_wp2_with fail
      refine (C2.out _).mono ?_
      rintro e w1 ⟨rfl, rfl⟩
      go_wp2_with fail
      generalize w2.setCell _ _ = w3 at *
      refine (C3.out _).mono ?_
      rintro e w4 ⟨rfl, b4⟩
      have q4 := q3.later b4 q3.lt
      have r4 : PtAtK w.heap.size KP.zero w4 := PtAtK.later (p := KP.zero) r3 b4 (PtAtK.lt (p := KP.zero) r3)
      have b5 := bt b3 b4
      clear a0 a1 a2 a3 a4 a5 f0 f1 f2 f3 f4 f5 q3 r3 b3 b4
      obtain ⟨a0, a1, a2, a3, a4, a5⟩ := q4.cell
      obtain ⟨f0, f1, f2, f3, f4, f5⟩ := q4.frees
      have q5 := q4.serv sv
      have r5 : PtAtK w.heap.size KP.zero (w4.setCell ⟨w.heap.size + 1, 4, none⟩ (.string ⟨sv.toArray⟩)) := block_set (i := 4) r4 hne
      have b6 := b5.setCell (p := ⟨w.heap.size + 1, 4, none⟩) (by simp) (.string ⟨sv.toArray⟩)
      go_wp2_with fail
      generalize w4.setCell _ _ = w5 at *
      refine (C4.out _).mono ?_
      rintro e w6 ⟨rfl, b7⟩
      have q6 := q5.later b7 q5.lt
      have r6 := r5.later b7 r5.lt
      have b8 := bt b6 b7
      clear a0 a1 a2 a3 a4 a5 f0 f1 f2 f3 f4 f5 q5 r5 b6 b7 q4 r4 b5
      obtain ⟨a0, a1, a2, a3, a4, a5⟩ := q6.cell
      obtain ⟨f0, f1, f2, f3, f4, f5⟩ := q6.frees
      have q7 := q6.host ho
      have r7 : PtAtK w.heap.size KP.zero (w6.setCell ⟨w.heap.size + 1, 5, none⟩ (.string ⟨ho.toArray⟩)) := block_set (i := 5) r6 hne
      have b9 := b8.setCell (p := ⟨w.heap.size + 1, 5, none⟩) (by simp) (.string ⟨ho.toArray⟩)
      cases is with
      | false =>
        go_wp2_with fail
        go_meet
        exact ⟨_, _, rfl, q7, r7, b9, by show _ = _; rw [HN.out (by first | rfl | trivial), resK_no], ⟨HS1.out, HS2.out⟩⟩
      | true =>
        have l7 := q7.lt
        have hz7 : Hid ((w6.setCell ⟨w.heap.size + 1, 5, none⟩ (.string ⟨ho.toArray⟩)).heap.size = w6.heap.size) := by show _ = _; simp
        go_wp2_with fail
        generalize w6.setCell _ _ = w7 at *
        rw [← hz7.out]
        refine (knumbers_any r2 (w.heap.size + 1) _ 3 [3, 1, 2] ⟨120, 0, 0, 0, sv, ho⟩ _ HS3.out rfl (by omega) (q7.alloc' _) (Nat.ne_of_gt l7) (fun i hi => by match i, hi with | 0, _ => simp | 1, _ => simp | 2, _ => simp) (fun i hi => by match i, hi with | 0, _ => exact new_cellK rfl rfl | 1, _ => exact new_cellK rfl rfl | 2, _ => exact new_cellK rfl rfl)).mono ?_
        rintro e w8 ⟨rfl, q8, b10⟩
        go_wp2_with fail
        go_meet
        obtain ⟨s1, s2, s3⟩ := numOf_same [3, 1, 2] ⟨120, 0, 0, 0, sv, ho⟩ r2
        exact ⟨_, _, rfl, q8, PtAtK.later (PtAtK.alloc' (p := KP.zero) r7 _) b10 (by omega), (b9.alloc b9.size _).trans (b10.mono (by omega)), HX.out (by first | rfl | trivial), ⟨by rw [s2]; exact HS1.out, by rw [s3]; exact HS2.out⟩⟩
    · have hp := parse_other h1 h2
      have HP := Lib.hid hp
      have d1 := pre_no 120 _ h2
      have d2 := pre_no 115 _ h1
      clear h1 h2
      clear hp
      rw [d2]
      go_wp2_with fail
      refine (C2.out _).mono ?_
      rintro e w1 ⟨rfl, rfl⟩
      rw [d1]
      go_wp2_with fail
      go_meet
      exact ⟨KP.zero, false, rfl, qp, qr, bw, by show _ = _; rw [HP.out, resK_no], ⟨by simp [KP.zero], by simp [KP.zero]⟩⟩
 case rest =>
  obtain ⟨p, b, rfl, q1, q2, b1, hp, hf⟩ := hcut
  have c := fun W => key_any p W hf.out
  unfold kpVal at c
  obtain ⟨a0, a1, a2, a3, a4, a5⟩ := q1.out.cell
  clear C1 C2 qr qp bw hi1 hi2
  cases b with
  | false =>
    obtain ⟨x, is, hk⟩ := keyV_form p.key
    rw [hk] at c
    have C := Lib.hid c
    have hn : parseV (parseK l) = .tuple #[kpVal KP.zero, .bool false] := by rw [hp.out, resK_no]; rfl
    rw [HR.out] at hn
    have HN := Lib.hid hn
    clear c hk hp hn HR
    go_wp2_with fail
    refine (C.out _).mono ?_
    rintro e w3 ⟨rfl, b3⟩
    have r3 := q2.out.later b3 q2.out.lt
    have b4 := bt b1.out b3
    clear a0 a1 a2 a3 a4 a5
    obtain ⟨c0, c1, c2, c3, c4, c5⟩ := r3.cell
    obtain ⟨f0, f1, f2, f3, f4, f5⟩ := r3.frees
    go_wp2_with fail
    refine bodyPost_ret (v := R) ?_ rfl ⟨rfl, ?_⟩
    · rw [HN.out]
      simp [results, kpVal, KP.zero, Tryz.results80, go_sem, *]
    · exact below_set6 b4 (Nat.le_refl _) _ _ _ _ _ _
  | true =>
    have hp2 : parseK l = if p.key = some l then some p else none := by rw [hp.out]; unfold resK; simp
    cases hk : p.key with
    | none =>
      rw [hk] at c
      unfold keyV at c
      have C := Lib.hid c
      have hn : parseV (parseK l) = .tuple #[kpVal KP.zero, .bool false] := by rw [hp2, hk]; rfl
      rw [HR.out] at hn
      have HN := Lib.hid hn
      clear c hk hp hn HR hp2
      go_wp2_with fail
      refine (C.out _).mono ?_
      rintro e w3 ⟨rfl, b3⟩
      have r3 := q2.out.later b3 q2.out.lt
      have b4 := bt b1.out b3
      clear a0 a1 a2 a3 a4 a5
      obtain ⟨c0, c1, c2, c3, c4, c5⟩ := r3.cell
      obtain ⟨f0, f1, f2, f3, f4, f5⟩ := r3.frees
      go_wp2_with fail
      refine bodyPost_ret (v := R) ?_ rfl ⟨rfl, ?_⟩
      · rw [HN.out]
        simp [results, kpVal, KP.zero, Tryz.results80, go_sem, *]
      · exact below_set6 b4 (Nat.le_refl _) _ _ _ _ _ _
    | some m =>
      by_cases hml : m = l
      · subst hml
        rw [hk] at c
        unfold keyV at c
        have C := Lib.hid c
        have hn : parseV (parseK m) = .tuple #[kpVal p, .bool true] := by rw [hp2, hk, if_pos rfl]; rfl
        rw [HR.out] at hn
        have HN := Lib.hid hn
        clear c hk hp hn HR hp2
        go_wp2_with fail
        refine (C.out _).mono ?_
        rintro e w3 ⟨rfl, b3⟩
        have q3 := q1.out.later b3 q1.out.lt
        have r3 := q2.out.later b3 q2.out.lt
        have b4 := bt b1.out b3
        clear a0 a1 a2 a3 a4 a5
        obtain ⟨a0, a1, a2, a3, a4, a5⟩ := q3.cell
        obtain ⟨c0, c1, c2, c3, c4, c5⟩ := r3.cell
        obtain ⟨f0, f1, f2, f3, f4, f5⟩ := r3.frees
        go_wp2_with fail
        refine bodyPost_ret (v := R) ?_ rfl ⟨rfl, ?_⟩
        · rw [HN.out]
          simp [results, kpVal, Tryz.results80, go_sem, *]
        · exact below_set6 b4 (Nat.le_refl _) _ _ _ _ _ _
      · rw [hk] at c
        unfold keyV at c
        have C := Lib.hid c
        have hn : parseV (parseK l) = .tuple #[kpVal KP.zero, .bool false] := by
         rw [hp2, hk, if_neg (by simpa using hml)]; rfl
        rw [HR.out] at hn
        have HN := Lib.hid hn
        have hbl : (m == l) = false := by simpa using hml
        clear c hk hp hn HR hp2
        go_wp2_with fail
        refine (C.out _).mono ?_
        rintro e w3 ⟨rfl, b3⟩
        have r3 := q2.out.later b3 q2.out.lt
        have b4 := bt b1.out b3
        clear a0 a1 a2 a3 a4 a5
        obtain ⟨c0, c1, c2, c3, c4, c5⟩ := r3.cell
        obtain ⟨f0, f1, f2, f3, f4, f5⟩ := r3.frees
        go_wp2_with fail
        refine bodyPost_ret (v := R) ?_ rfl ⟨rfl, ?_⟩
        · rw [HN.out]
          simp [results, kpVal, KP.zero, Tryz.results80, go_sem, *]
        · exact below_set6 b4 (Nat.le_refl _) _ _ _ _ _ _
theorem row_any (l : List UInt8) (hl : l.length ≤ 140737488351232) (w : World) :
 Calls Tryz.prog 56 #[.string ⟨l.toArray⟩] w fun e w' => e = .returned (.string ⟨(rowK l).toArray⟩) ∧ Below w.heap.size w w' := by
 have c := fun W => parse_any l hl W
 have hi1 : ∀ W, (Instr.index 9 (.string ⟨#[115]⟩) (.int .i64 0)).run Tryz.prog W = .ok (.int .u8 115) W := fun _ => by kernel_rfl
 unfold rowK
 cases hp : parseK l with
 | none =>
   rw [hp] at c
   unfold parseV kpVal KP.zero at c
   have C := Lib.hid c
   clear c hp
   go_enter Tryz.func56, Tryz.ntmps56
   go_wp2_with fail
   refine (C.out _).mono ?_
   rintro e w1 ⟨rfl, b1⟩
   go_wp2_with fail
   go_ret
   exact ⟨rfl, b1.alloc b1.size _⟩
 | some p =>
   rw [hp] at c
   unfold parseV kpVal at c
   have C := Lib.hid c
   obtain ⟨hk, hor⟩ := parseK_some hp
   clear c hp
   by_cases h5 : p.kind = 115
   · have hkb : ((p.kind : Int) == 115) = true := by rw [h5]; rfl
     have h9 : 9 ≤ l.length := by
      unfold KP.key at hk
      split at hk
      · have hk2 : some (sKey p.tr p.id) = some l := by simpa [h5] using hk
        rw [Option.some.injEq] at hk2
        rw [← hk2, sKey_length]
        omega
      · cases hk
     have hsl := slice_head l 9 9 rfl h9
     simp only [h5, if_true]
     have H5 := Lib.hid h5
     clear hk hor h5
     go_enter Tryz.func56, Tryz.ntmps56
     go_wp2_with fail
     refine (C.out _).mono ?_
     rintro e w1 ⟨rfl, b1⟩
     go_upto_region 4 with fail
     go_quiet (fail)
     go_wp2_with fail
     go_ret
     exact ⟨rfl, _root_.Go.below_drewN (b1.alloc b1.size _) _⟩
   · have hkb : ((p.kind : Int) == 115) = false := by rw [beq_eq_false_iff_ne]; omega
     simp only [h5, if_false]
     have H5 := Lib.hid h5
     clear hk hor h5
     go_enter Tryz.func56, Tryz.ntmps56
     go_wp2_with fail
     refine (C.out _).mono ?_
     rintro e w1 ⟨rfl, b1⟩
     go_upto_region 4 with fail
     go_quiet (fail)
     go_wp2_with fail
     go_ret
     exact ⟨rfl, _root_.Go.below_drewN (b1.alloc b1.size _) _⟩
def zeroAt (l : List UInt8) (a : Nat) : Int := if nz (l.drop a) = true then -1 else ((a + ((l.drop a).takeWhile (· != 0)).length : Nat) : Int)
theorem nz_cons (c : UInt8) (l : List UInt8) : nz (c :: l) = (c != 0 && nz l) := rfl
theorem zero_any (s : ByteArray) (a : Nat) (w : World) (hs : s.size ≤ maxLen) (ha : a ≤ s.size) :
 Calls Tryz.prog 107 #[.string s, .int .i64 a] w fun e w' => e = .returned (.int .i64 (zeroAt s.data.toList a)) ∧ w = w' := by
 unfold maxLen at hs
 have hlen := bytes_len s
 have HLen := Lib.hid hlen
 clear hlen
 obtain ⟨R, hR⟩ : ∃ R, zeroAt s.data.toList a = R := ⟨_, rfl⟩
 rw [hR]
 have HR := Lib.hid hR
 clear hR
 go_enter Tryz.func107, Tryz.ntmps107
 go_wp2
 go_loop [5] (fun v => ∃ j : Nat, a + j ≤ s.size ∧ v = .int .i64 ((a : Int) + (j : Int)) ∧ Hid (zeroAt s.data.toList a = zeroAt s.data.toList (a + j))) (fun v => s.size - (intOf v).toNat)
 case atStart => exact ⟨0, by omega, by go_num, rfl⟩
 case round =>
  obtain ⟨j, hj, rfl, hfl⟩ := hrel
  by_cases hlt : a + j < s.size
  · have hidx := index_at s a j hlt
    have hd := drop_at s.data.toList (a + j) (by rw [HLen.out]; exact hlt)
    have HD := Lib.hid hd
    generalize hc : (s.data.toList.getD (a + j) 0) = c at *
    have hz : zeroAt s.data.toList (a + j) = if c = 0 then ((a + j : Nat) : Int) else zeroAt s.data.toList (a + (j + 1)) := by
     unfold zeroAt
     rw [HD.out]
     by_cases h0 : c = 0
     · rw [if_pos h0]
       subst h0
       rw [nz_cons]; simp
     · have h1 : (c != 0) = true := by simpa using h0
       rw [if_neg h0]
       rw [nz_cons, h1, Bool.true_and]
       simp only [List.takeWhile_cons, h1, if_true, List.length_cons]
       rw [show a + j + 1 = a + (j + 1) from by omega]
       generalize s.data.toList.drop (a + (j + 1)) = X
       by_cases hx : nz X = true
       · rw [if_pos hx, if_pos hx]
       · rw [if_neg hx, if_neg hx]; congr 1; omega
    have HZ := Lib.hid hz
    clear hd hz hc
    by_cases h0 : c = 0
    · subst h0
      go_wp2
      go_ret
      refine ⟨ret1 ?_, rfl⟩
      rw [← HR.out, hfl.out, HZ.out]
      exact int_of (by simp)
    · have h1 : ((c.toNat : Int) == 0) = false := by
       rw [beq_eq_false_iff_ne]
       intro e
       exact h0 (UInt8.toNat_inj.1 (by simpa using e))
      have H0 := Lib.hid h0
      clear h0
      go_wp2
      go_round
      case rel => exact ⟨j + 1, by omega, by go_num, by show _ = _; rw [hfl.out, HZ.out, if_neg H0.out]⟩
      case measure => simp [intOf]; omega
  · have e : zeroAt s.data.toList (a + j) = -1 := by
     unfold zeroAt
     rw [List.drop_of_length_le (by rw [HLen.out]; omega)]
     rfl
    have He := Lib.hid e
    clear e
    go_wp2
    go_ret
    exact ⟨ret1 (by rw [← HR.out, hfl.out, He.out]; rfl), rfl⟩
theorem refOfBig_list (l : List UInt8) (a : Nat) (hl : l.length ≤ 140737488351232) (w : World) :
 Calls Tryz.prog 105 #[.string ⟨l.toArray⟩, .int .i64 a] w fun e w' => e = .returned (ofBigV (ofBig (l.drop a))) ∧ w = w' := by
 have := refOfBig_any ⟨l.toArray⟩ (a : Int) w (mk_max hl)
 unfold ofBigAt at this
 rw [if_neg (by omega)] at this
 exact this
theorem ofBigV_some (o : Option Nat) : ∃ (n : Nat) (b : Bool), ofBigV o = .tuple #[.int .i64 n, .bool b] ∧ (b = true → o = some n) ∧ (b = false → o = none) := by
 cases o with
 | none => exact ⟨0, false, rfl, fun h => (by cases h), fun _ => rfl⟩
 | some n => exact ⟨n, true, rfl, fun _ => rfl, fun h => (by cases h)⟩
theorem index0 (c : UInt8) (r : List UInt8) (W : World) : (Instr.index 9 (.string ⟨(c :: r).toArray⟩) (.int .i64 0)).run Tryz.prog W = .ok (.int .u8 (c.toNat : Int)) W := by
 have := index_nat ⟨(c :: r).toArray⟩ 0 (by show 0 < (c :: r).toArray.size; simp) W
 simpa using this
theorem refParse_short (l : List UInt8) (hl : l.length ≤ 140737488351232) (hn : ¬ (l.length = 17 ∧ l.head? = some 115)) (h2 : ¬ l.head? = some 120) (w : World) :
 Calls Tryz.prog 81 #[.string ⟨l.toArray⟩] w fun e w' => e = .returned (parseV none) ∧ Below w.heap.size w w' := by
 cases l with
 | nil =>
   go_enter Tryz.func81, Tryz.ntmps81
   go_wp2_with fail
   exact bodyPost_ret (v := parseV none) (by simp [results, parseV, kpVal, KP.zero, Tryz.results81, go_sem]) rfl ⟨rfl, (Below.refl _ _).alloc (Nat.le_refl _) _⟩
 | cons c r =>
   have hi := index0 c r
   simp only [List.head?_cons, Option.some.injEq] at hn h2
   have hc2 : ((c.toNat : Int) == 120) = false := by
    rw [beq_eq_false_iff_ne]; intro e; exact h2 (UInt8.toNat_inj.1 (by show c.toNat = 120; omega))
   have hc3 : ((c.toNat : Int) != 120) = true := by rw [bne, hc2]; rfl
   by_cases h17 : r.length = 16
   · have hc1 : ((c.toNat : Int) == 115) = false := by
      rw [beq_eq_false_iff_ne]; intro e; exact hn ⟨by simp [h17], UInt8.toNat_inj.1 (by show c.toNat = 115; omega)⟩
     have g1 : ((r.length : Int) + 1 == 17) = true := by rw [beq_iff_eq]; omega
     have H17 := Lib.hid h17
     clear h17 hn h2
     go_enter Tryz.func81, Tryz.ntmps81
     go_wp2_with fail
     exact bodyPost_ret (v := parseV none) (by simp [results, parseV, kpVal, KP.zero, Tryz.results81, go_sem]) rfl ⟨rfl, (Below.refl _ _).alloc (Nat.le_refl _) _⟩
   · have g1 : ((r.length : Int) + 1 == 17) = false := by rw [beq_eq_false_iff_ne]; omega
     have H17 := Lib.hid h17
     clear h17 hn h2
     go_enter Tryz.func81, Tryz.ntmps81
     go_wp2_with fail
     exact bodyPost_ret (v := parseV none) (by simp [results, parseV, kpVal, KP.zero, Tryz.results81, go_sem]) rfl ⟨rfl, (Below.refl _ _).alloc (Nat.le_refl _) _⟩
theorem refParse_s (r : List UInt8) (h16 : r.length = 16) (w : World) :
 Calls Tryz.prog 81 #[.string ⟨(115 :: r).toArray⟩] w fun e w' => e = .returned (parseV (parseK (115 :: r))) ∧ Below w.heap.size w w' := by
 have hi := index0 115 r
 have g1 : ((r.length : Int) + 1 == 17) = true := by rw [beq_iff_eq]; omega
 obtain ⟨a, A, ha, ha1, ha0⟩ := ofBigV_some (ofBig r)
 obtain ⟨b, B, hb, hb1, hb0⟩ := ofBigV_some (ofBig (r.drop 8))
 have c1 := fun W => refOfBig_list (115 :: r) 1 (by simp; omega) W
 have c2 := fun W => refOfBig_list (115 :: r) 9 (by simp; omega) W
 rw [show (115 :: r).drop 1 = r from rfl, ha] at c1
 rw [show (115 :: r).drop 9 = r.drop 8 from rfl, hb] at c2
 have c3 := fun W => refNumber_any (a : Int) W
 have c4 := fun W => refNumber_any (b : Int) W
 have hp : parseK (115 :: r) = if (A && B && (idOk (a : Int) && idOk (b : Int))) = true then some ⟨115, a, b, 0, [], []⟩ else none := by
  rw [parseK, if_pos rfl]
  unfold big2
  rw [if_pos h16]
  cases A with
  | false => rw [ha0 rfl]; rfl
  | true =>
    rw [ha1 rfl]
    cases B with
    | false => rw [hb0 rfl]; rfl
    | true => rw [hb1 rfl]; rfl
 generalize idOk (a : Int) = I at *
 generalize idOk (b : Int) = J at *
 rw [hp]
 have C1 := Lib.hid c1
 have C2 := Lib.hid c2
 have C3 := Lib.hid c3
 have C4 := Lib.hid c4
 clear hp c1 c2 c3 c4 ha ha1 ha0 hb hb1 hb0 h16
 cases A with
 | false =>
   go_enter Tryz.func81, Tryz.ntmps81
   go_wp2_with fail
   refine (C1.out _).mono ?_
   rintro e w1 ⟨rfl, rfl⟩
   go_wp2_with fail
   refine (C2.out _).mono ?_
   rintro e w1 ⟨rfl, rfl⟩
   go_wp2_with fail
   exact bodyPost_ret (v := parseV none) (by simp [results, parseV, kpVal, KP.zero, Tryz.results81, go_sem]) rfl ⟨rfl, (Below.refl _ _).alloc (Nat.le_refl _) _⟩
 | true =>
   cases B with
   | false =>
     go_enter Tryz.func81, Tryz.ntmps81
     go_wp2_with fail
     refine (C1.out _).mono ?_
     rintro e w1 ⟨rfl, rfl⟩
     go_wp2_with fail
     refine (C2.out _).mono ?_
     rintro e w1 ⟨rfl, rfl⟩
     go_wp2_with fail
     exact bodyPost_ret (v := parseV none) (by simp [results, parseV, kpVal, KP.zero, Tryz.results81, go_sem]) rfl ⟨rfl, (Below.refl _ _).alloc (Nat.le_refl _) _⟩
   | true =>
     cases I with
     | false =>
       go_enter Tryz.func81, Tryz.ntmps81
       go_wp2_with fail
       refine (C1.out _).mono ?_
       rintro e w1 ⟨rfl, rfl⟩
       go_wp2_with fail
       refine (C2.out _).mono ?_
       rintro e w1 ⟨rfl, rfl⟩
       go_wp2_with fail
       refine (C3.out _).mono ?_
       rintro e w1 ⟨rfl, rfl⟩
       go_wp2_with fail
       exact bodyPost_ret (v := parseV none) (by simp [results, parseV, kpVal, KP.zero, Tryz.results81, go_sem]) rfl ⟨rfl, (Below.refl _ _).alloc (Nat.le_refl _) _⟩
     | true =>
       cases J with
       | false =>
         go_enter Tryz.func81, Tryz.ntmps81
         go_wp2_with fail
         refine (C1.out _).mono ?_
         rintro e w1 ⟨rfl, rfl⟩
         go_wp2_with fail
         refine (C2.out _).mono ?_
         rintro e w1 ⟨rfl, rfl⟩
         go_wp2_with fail
         refine (C3.out _).mono ?_
         rintro e w1 ⟨rfl, rfl⟩
         go_wp2_with fail
         refine (C4.out _).mono ?_
         rintro e w1 ⟨rfl, rfl⟩
         go_wp2_with fail
         exact bodyPost_ret (v := parseV none) (by simp [results, parseV, kpVal, KP.zero, Tryz.results81, go_sem]) rfl ⟨rfl, (Below.refl _ _).alloc (Nat.le_refl _) _⟩
       | true =>
         go_enter Tryz.func81, Tryz.ntmps81
         go_wp2_with fail
         refine (C1.out _).mono ?_
         rintro e w1 ⟨rfl, rfl⟩
         go_wp2_with fail
         refine (C2.out _).mono ?_
         rintro e w1 ⟨rfl, rfl⟩
         go_wp2_with fail
         refine (C3.out _).mono ?_
         rintro e w1 ⟨rfl, rfl⟩
         go_wp2_with fail
         refine (C4.out _).mono ?_
         rintro e w1 ⟨rfl, rfl⟩
         go_wp2_with fail
         exact bodyPost_ret (v := parseV (some ⟨115, a, b, 0, [], []⟩)) (by simp [results, parseV, kpVal, Tryz.results81, go_sem]) rfl ⟨rfl, (Below.refl _ _).alloc (Nat.le_refl _) _⟩
theorem len_cut {r : List UInt8} (hz : nz r = false) : (120 :: r).length = 1 + (cut0 r).1.length + 1 + (cut0 r).2.1.length := by
 obtain ⟨h1, _, _⟩ := cut0_len hz
 simp; omega
theorem zero_1 (r : List UInt8) : zeroAt (120 :: r) 1 = if nz r = true then -1 else ((1 + (cut0 r).1.length : Nat) : Int) := rfl
theorem drop_1 {r : List UInt8} (hz : nz r = false) : (120 :: r).drop (1 + (cut0 r).1.length + 1) = (cut0 r).2.1 := by
 obtain ⟨_, _, h3⟩ := cut0_len hz
 rw [h3, show 1 + (cut0 r).1.length + 1 = ((cut0 r).1.length + 1) + 1 from by omega, List.drop_succ_cons]
theorem refParse_x1 (r : List UInt8) (hl : r.length ≤ 140737488351231) (g17 : ((r.length : Int) + 1 == 17) = false ∨ ((r.length : Int) + 1 == 17) = true) (hz : nz r = true) (w : World) :
 Calls Tryz.prog 81 #[.string ⟨(120 :: r).toArray⟩] w fun e w' => e = .returned (parseV none) ∧ Below w.heap.size w w' := by
 have hi := index0 120 r
 have c1 := fun W => zero_any ⟨(120 :: r).toArray⟩ 1 W (mk_max (by simp; omega)) (by simp only [ByteArray.size_mk', List.size_toArray, List.length_cons]; omega)
 rw [show (⟨(120 :: r).toArray⟩ : ByteArray).data.toList = 120 :: r from rfl, zero_1, if_pos hz] at c1
 have C1 := Lib.hid c1
 clear c1 hz
 rcases g17 with g1 | g1
 all_goals
  go_enter Tryz.func81, Tryz.ntmps81
  go_wp2_with fail
  refine (C1.out _).mono ?_
  rintro e w1 ⟨rfl, rfl⟩
  go_wp2_with fail
  exact bodyPost_ret (v := parseV none) (by simp [results, parseV, kpVal, KP.zero, Tryz.results81, go_sem]) rfl ⟨rfl, (Below.refl _ _).alloc (Nat.le_refl _) _⟩
theorem refParse_x2 (r : List UInt8) (hl : r.length ≤ 140737488351231) (g17 : ((r.length : Int) + 1 == 17) = false ∨ ((r.length : Int) + 1 == 17) = true) (hz : nz r = false)
 (h2 : nz (cut0 r).2.1 = true ∨ (nz (cut0 r).2.1 = false ∧ (cut0 (cut0 r).2.1).2.1.length ≠ 24)) (w : World) :
 Calls Tryz.prog 81 #[.string ⟨(120 :: r).toArray⟩] w fun e w' => e = .returned (parseV none) ∧ Below w.heap.size w w' := by
 have hi := index0 120 r
 have c1 := fun W => zero_any ⟨(120 :: r).toArray⟩ 1 W (mk_max (by simp; omega)) (by simp only [ByteArray.size_mk', List.size_toArray, List.length_cons]; omega)
 rw [show (⟨(120 :: r).toArray⟩ : ByteArray).data.toList = 120 :: r from rfl, zero_1, if_neg (by simp [hz])] at c1
 have hlen := len_cut hz
 simp only [List.length_cons] at hlen
 have c2 := fun W => zero_any ⟨(120 :: r).toArray⟩ (1 + (cut0 r).1.length + 1) W (mk_max (by simp; omega)) (by simp only [ByteArray.size_mk', List.size_toArray, List.length_cons]; omega)
 rw [show (⟨(120 :: r).toArray⟩ : ByteArray).data.toList = 120 :: r from rfl] at c2
 unfold zeroAt at c2
 rw [drop_1 hz] at c2
 generalize (cut0 r).2.1 = r1 at *
 obtain ⟨i, hi2⟩ : ∃ i : Nat, 1 + (cut0 r).1.length = i := ⟨_, rfl⟩
 rw [hi2] at c1 c2 hlen
 rw [show ((i + 1 : Nat) : Int) = (i : Int) + 1 from by omega] at c2
 have C1 := Lib.hid c1
 clear c1 hz hi2
 rcases h2 with h2 | ⟨h2, h24⟩
 · rw [if_pos h2] at c2
   have C2 := Lib.hid c2
   have HLen := Lib.hid hlen
   have hb : i ≤ r.length := by omega
   clear c2 h2 hlen
   rcases g17 with g1 | g1
   all_goals
    go_enter Tryz.func81, Tryz.ntmps81
    go_wp2_with fail
    refine (C1.out _).mono ?_
    rintro e w1 ⟨rfl, rfl⟩
    go_wp2_with fail
    refine (C2.out _).mono ?_
    rintro e w1 ⟨rfl, rfl⟩
    go_wp2_with fail
    exact bodyPost_ret (v := parseV none) (by simp [results, parseV, kpVal, KP.zero, Tryz.results81, go_sem]) rfl ⟨rfl, (Below.refl _ _).alloc (Nat.le_refl _) _⟩
 · rw [if_neg (by simp [h2]), show r1.takeWhile (· != 0) = (cut0 r1).1 from rfl] at c2
   obtain ⟨m1, _, _⟩ := cut0_len h2
   generalize (cut0 r1).1.length = q at *
   generalize (cut0 r1).2.1.length = q2 at *
   obtain ⟨k, hk⟩ : ∃ k : Nat, i + 1 + q = k := ⟨_, rfl⟩
   rw [hk] at c2
   have C2 := Lib.hid c2
   have hn2 : (((r.length : Int) + 1) == ((k : Int) + 25)) = false := by rw [beq_eq_false_iff_ne]; omega
   have hn3 : (((r.length : Int) + 1) != ((k : Int) + 25)) = true := by rw [bne, hn2]; rfl
   have hk2 : k ≤ r.length := by omega
   have hb : i ≤ r.length := by omega
   clear c2 h2 hlen m1 hk h24
   rcases g17 with g1 | g1
   all_goals
    go_enter Tryz.func81, Tryz.ntmps81
    go_wp2_with fail
    refine (C1.out _).mono ?_
    rintro e w1 ⟨rfl, rfl⟩
    go_wp2_with fail
    refine (C2.out _).mono ?_
    rintro e w1 ⟨rfl, rfl⟩
    go_wp2_with fail
    exact bodyPost_ret (v := parseV none) (by simp [results, parseV, kpVal, KP.zero, Tryz.results81, go_sem]) rfl ⟨rfl, (Below.refl _ _).alloc (Nat.le_refl _) _⟩
def RtAt (b : Nat) (p : KP) (w : World) : Prop := w.heap[b]? = some (.cells #[.int .u8 p.kind, .int .i64 p.tr, .int .i64 p.id, .int .i64 p.st, .string ⟨p.sv.toArray⟩, .string ⟨p.ho.toArray⟩] 148 (0, 0))
theorem RtAt.cell {b : Nat} {p : KP} {w : World} (h : RtAt b p w) : w.cell? ⟨b, 0, none⟩ = some (.int .u8 p.kind) ∧ w.cell? ⟨b, 1, none⟩ = some (.int .i64 p.tr) ∧ w.cell? ⟨b, 2, none⟩ = some (.int .i64 p.id) ∧
 w.cell? ⟨b, 3, none⟩ = some (.int .i64 p.st) ∧ w.cell? ⟨b, 4, none⟩ = some (.string ⟨p.sv.toArray⟩) ∧ w.cell? ⟨b, 5, none⟩ = some (.string ⟨p.ho.toArray⟩) := by
 refine ⟨?_, ?_, ?_, ?_, ?_, ?_⟩ <;> (rw [cell_of_row w b _ _ _ _ h]; rfl)
theorem RtAt.later {B b : Nat} {p : KP} {w w' : World} (h : RtAt b p w) (hb : Below B w w') (hlt : b < B) : RtAt b p w' := by
 unfold RtAt; rw [hb.block b hlt]; exact h
theorem RtAt.lt {b : Nat} {p : KP} {w : World} (h : RtAt b p w) : b < w.heap.size := (Go.ltA h)
theorem RtAt.free {b : Nat} {p : KP} {w : World} (h : RtAt b p w) (j : Nat) : w.frozen? ⟨b, j, none⟩ = false := frozen_of_row w b j _ _ h
theorem RtAt.frees {b : Nat} {p : KP} {w : World} (h : RtAt b p w) : w.frozen? ⟨b, 0, none⟩ = false ∧ w.frozen? ⟨b, 1, none⟩ = false ∧ w.frozen? ⟨b, 2, none⟩ = false ∧ w.frozen? ⟨b, 3, none⟩ = false ∧ w.frozen? ⟨b, 4, none⟩ = false ∧ w.frozen? ⟨b, 5, none⟩ = false :=
 ⟨h.free 0, h.free 1, h.free 2, h.free 3, h.free 4, h.free 5⟩
def boxR (p : KP) : Obj := .cells #[.int .u8 p.kind, .int .i64 p.tr, .int .i64 p.id, .int .i64 p.st, .string ⟨p.sv.toArray⟩, .string ⟨p.ho.toArray⟩] 148
theorem RtAt.boxed (p : KP) (w : World) : RtAt w.heap.size p (w.alloc (boxR p)) := heap_alloc_new w _
theorem RtAt.alloc' {b : Nat} {p : KP} {w : World} (h : RtAt b p w) (o : Obj) : RtAt b p (w.alloc o) := (Below.heap_alloc w o b h.lt).trans h
theorem like_x (tr id st : Int) (sv ho : List UInt8) : (⟨120, tr, id, st, sv, ho⟩ : KP).like = ⟨tr, id, 0, sv, ho, st, 0, []⟩ := by
 unfold KP.like; rw [if_neg (by simp)]
set_option maxHeartbeats 1000000 in
theorem refParse_x3 (r : List UInt8) (hl : r.length ≤ 140737488351231) (g17 : ((r.length : Int) + 1 == 17) = false) (hz : nz r = false)
 (h2 : nz (cut0 r).2.1 = false) (h24 : (cut0 (cut0 r).2.1).2.1.length = 24) (w : World) :
 Calls Tryz.prog 81 #[.string ⟨(120 :: r).toArray⟩] w fun e w' => e = .returned (parseV (parseK (120 :: r))) ∧ Below w.heap.size w w' := by
 have hi := index0 120 r
 have c1 := fun W => zero_any ⟨(120 :: r).toArray⟩ 1 W (mk_max (by simp; omega)) (by simp only [ByteArray.size_mk', List.size_toArray, List.length_cons]; omega)
 rw [show (⟨(120 :: r).toArray⟩ : ByteArray).data.toList = 120 :: r from rfl, zero_1, if_neg (by simp [hz])] at c1
 have hlen := len_cut hz
 simp only [List.length_cons] at hlen
 have c2 := fun W => zero_any ⟨(120 :: r).toArray⟩ (1 + (cut0 r).1.length + 1) W (mk_max (by simp; omega)) (by simp only [ByteArray.size_mk', List.size_toArray, List.length_cons]; omega)
 rw [show (⟨(120 :: r).toArray⟩ : ByteArray).data.toList = 120 :: r from rfl] at c2
 unfold zeroAt at c2
 have hd1 := drop_1 hz
 have hsv : ((120 :: r).drop 1).take (1 + (cut0 r).1.length - 1) = (cut0 r).1 := by
  obtain ⟨_, h, _⟩ := cut0_len hz
  rw [show 1 + (cut0 r).1.length - 1 = (cut0 r).1.length from by omega]
  exact h.symm
 rw [hd1, if_neg (by simp [h2]), show (cut0 r).2.1.takeWhile (· != 0) = (cut0 (cut0 r).2.1).1 from rfl] at c2
 have his : (cut0 (cut0 r).2.1).2.2 = true := by simp [cut0] at h2 ⊢; exact h2
 have hp : parseK (120 :: r) = match big3 (cut0 (cut0 r).2.1).2.1 with
  | some (s, t, i) => if (⟨120, t, i, s, (cut0 r).1, (cut0 (cut0 r).2.1).1⟩ : KP).like.ok = true then some ⟨120, t, i, s, (cut0 r).1, (cut0 (cut0 r).2.1).1⟩ else none
  | none => none := by
  first | (rw [parseK, if_neg (by decide), if_pos rfl, if_pos his]; done) | (rw [parseK, if_neg (by decide), if_pos rfl, if_pos his]; rfl)
 rw [hp]
 obtain ⟨m1, hho, hr2⟩ := cut0_len h2
 obtain ⟨m2, m3⟩ := cut0_le r
 generalize (cut0 r).1 = sv at *
 generalize (cut0 r).2.1 = r1 at *
 generalize (cut0 r1).1 = ho at *
 generalize (cut0 r1).2.1 = r2 at *
 obtain ⟨i, hi2⟩ : ∃ i : Nat, 1 + sv.length = i := ⟨_, rfl⟩
 obtain ⟨k, hk⟩ : ∃ k : Nat, i + 1 + ho.length = k := ⟨_, rfl⟩
 rw [hi2] at c1 c2 hlen hd1 hsv
 rw [hk] at c2
 rw [show ((i + 1 : Nat) : Int) = (i : Int) + 1 from by omega] at c2
 have hk2 : r.length + 1 = k + 25 := by omega
 have hdk : (120 :: r).drop (k + 1) = r2 := by
  rw [hr2, ← hd1, List.drop_drop, ← hk]
  congr 1
 have hdk9 : (120 :: r).drop (k + 9) = r2.drop 8 := by rw [← hdk, List.drop_drop]
 have hdk17 : (120 :: r).drop (k + 17) = r2.drop 16 := by rw [← hdk, List.drop_drop]
 have hsh : ((120 :: r).drop (i + 1)).take (k - (i + 1)) = ho := by
  rw [hd1, show k - (i + 1) = ho.length from by omega]
  exact hho.symm
 obtain ⟨a, A, ha, ha1, ha0⟩ := ofBigV_some (ofBig r2)
 obtain ⟨b, B, hb, hb1, hb0⟩ := ofBigV_some (ofBig (r2.drop 8))
 obtain ⟨c, C, hc, hc1, hc0⟩ := ofBigV_some (ofBig (r2.drop 16))
 have c3 := fun W => refOfBig_list (120 :: r) (k + 1) (by simp; omega) W
 have c4 := fun W => refOfBig_list (120 :: r) (k + 9) (by simp; omega) W
 have c5 := fun W => refOfBig_list (120 :: r) (k + 17) (by simp; omega) W
 rw [hdk, ha, show ((k + 1 : Nat) : Int) = (k : Int) + 1 from by omega] at c3
 rw [hdk9, hb, show ((k + 9 : Nat) : Int) = (k : Int) + 9 from by omega] at c4
 rw [hdk17, hc, show ((k + 17 : Nat) : Int) = (k : Int) + 17 from by omega] at c5
 have c6 := fun W => may_anyS ⟨b, c, 0, sv, ho, a, 0, []⟩ W ⟨by dsimp only; omega, by dsimp only; omega, by simp⟩
 have hp2 : (match big3 r2 with
  | some (s, t, i) => if (⟨120, t, i, s, sv, ho⟩ : KP).like.ok = true then some (⟨120, t, i, s, sv, ho⟩ : KP) else none
  | none => none) = if (A && B && C && (⟨b, c, 0, sv, ho, a, 0, []⟩ : Sp).ok) = true then some (⟨120, b, c, a, sv, ho⟩ : KP) else none := by
  unfold big3
  rw [if_pos h24]
  cases A with
  | false => rw [ha0 rfl]; rfl
  | true =>
    rw [ha1 rfl]
    cases B with
    | false => rw [hb0 rfl]; rfl
    | true =>
      rw [hb1 rfl]
      cases C with
      | false => rw [hc0 rfl]; rfl
      | true => rw [hc1 rfl]; simp only [like_x]; rfl
 rw [hp2]
 have s1 := slice_at ⟨(120 :: r).toArray⟩ 1 i 1 (i : Int) rfl rfl (by omega) (by simp only [ByteArray.size_mk', List.size_toArray, List.length_cons]; omega)
 have s2 := slice_at ⟨(120 :: r).toArray⟩ (i + 1) k ((i : Int) + 1) (k : Int) (by omega) rfl (by omega) (by simp only [ByteArray.size_mk', List.size_toArray, List.length_cons]; omega)
 rw [show (⟨(120 :: r).toArray⟩ : ByteArray).data.toList = 120 :: r from rfl] at s1 s2
 rw [hsv] at s1
 rw [hsh] at s2
 generalize (⟨b, c, 0, sv, ho, a, 0, []⟩ : Sp).ok = M at *
 have hn2 : (((r.length : Int) + 1) == ((k : Int) + 25)) = true := by rw [beq_iff_eq]; omega
 have hn3 : (((r.length : Int) + 1) != ((k : Int) + 25)) = false := by rw [bne, hn2]; rfl
 have w1 : IntKind.i64.wrap ((i : Int) + 1) = (i : Int) + 1 := IntWalk.i64_in _ (by omega)
 have hk3 : k ≤ r.length := by omega
 have hb3 : i ≤ r.length := by omega
 unfold spVal at c6
 dsimp only at c6
 have C1 := Lib.hid c1
 have C2 := Lib.hid c2
 have C3 := Lib.hid c3
 have C4 := Lib.hid c4
 have C5 := Lib.hid c5
 have C6 := Lib.hid c6
 clear c1 c2 c3 c4 c5 c6 hp hp2 ha ha1 ha0 hb hb1 hb0 hc hc1 hc0 hdk hdk9 hdk17 hsh hsv hho hr2 hd1 hlen hi2 hk hk2 h24 his hz h2 m1 m2 m3
 go_enter Tryz.func81, Tryz.ntmps81
 go_wp2_with fail
 refine (C1.out _).mono ?_
 rintro e w1 ⟨rfl, rfl⟩
 go_wp2_with fail
 refine (C2.out _).mono ?_
 rintro e w1 ⟨rfl, rfl⟩
 go_wp2_with fail
 refine (C3.out _).mono ?_
 rintro e w1 ⟨rfl, rfl⟩
 go_wp2_with fail
 refine (C4.out _).mono ?_
 rintro e w1 ⟨rfl, rfl⟩
 go_wp2_with fail
 refine (C5.out _).mono ?_
 rintro e w1 ⟨rfl, rfl⟩
 go_upto_region 18 with fail
 go_region_with fail
 have x1 : RtAt w.heap.size KP.zero (((w.alloc (boxR KP.zero)).alloc (boxS ⟨b, c, 0, sv, ho, a, 0, []⟩)).drew) := (RtAt.boxed KP.zero w).alloc' _
 have x2 : SpAt (w.heap.size + 1) ⟨b, c, 0, sv, ho, a, 0, []⟩ (((w.alloc (boxR KP.zero)).alloc (boxS ⟨b, c, 0, sv, ho, a, 0, []⟩)).drew) := by
  have := SpAt.boxed ⟨b, c, 0, sv, ho, a, 0, []⟩ (w.alloc (boxR KP.zero))
  rw [alloc_size] at this
  exact this
 have x3 : Below w.heap.size w (((w.alloc (boxR KP.zero)).alloc (boxS ⟨b, c, 0, sv, ho, a, 0, []⟩)).drew) := (below_new2' _ _).drew
 unfold boxR boxS KP.zero at x1 x2 x3
 try dsimp only at x1 x2 x3
 generalize World.drew _ = w2 at *
 obtain ⟨d0, d1, d2, d3, d4, d5, d6, d7⟩ := x2.cell
 try dsimp only at d0 d1 d2 d3 d4 d5 d6 d7
 obtain ⟨e0, e1, e2, e3, e4, e5⟩ := x1.cell
 try dsimp only at e0 e1 e2 e3 e4 e5
 obtain ⟨f0, f1, f2, f3, f4, f5⟩ := x1.frees
 have l1 := x1.lt
 have l2 := x2.lt
 cases A with
 | false =>
   go_wp2_with fail
   refine bodyPost_ret (v := parseV none) ?_ rfl ⟨rfl, below_set6 x3 (Nat.le_refl _) _ _ _ _ _ _⟩
   simp [results, parseV, kpVal, KP.zero, Tryz.results81, go_sem, *]
 | true =>
   cases B with
   | false =>
     go_wp2_with fail
     refine bodyPost_ret (v := parseV none) ?_ rfl ⟨rfl, below_set6 x3 (Nat.le_refl _) _ _ _ _ _ _⟩
     simp [results, parseV, kpVal, KP.zero, Tryz.results81, go_sem, *]
   | true =>
     cases C with
     | false =>
       go_wp2_with fail
       refine bodyPost_ret (v := parseV none) ?_ rfl ⟨rfl, below_set6 x3 (Nat.le_refl _) _ _ _ _ _ _⟩
       simp [results, parseV, kpVal, KP.zero, Tryz.results81, go_sem, *]
     | true =>
       cases M with
       | false =>
         go_wp2_with fail
         refine (C6.out _).mono ?_
         rintro e w3 ⟨rfl, b3⟩
         have y1 := x1.later b3 l1
         have y3 := bt x3 b3
         clear d0 d1 d2 d3 d4 d5 d6 d7 e0 e1 e2 e3 e4 e5 f0 f1 f2 f3 f4 f5 x1 x2 x3
         obtain ⟨e0, e1, e2, e3, e4, e5⟩ := y1.cell
         try dsimp only at e0 e1 e2 e3 e4 e5
         obtain ⟨f0, f1, f2, f3, f4, f5⟩ := y1.frees
         go_wp2_with fail
         refine bodyPost_ret (v := parseV none) ?_ rfl ⟨rfl, below_set6 y3 (Nat.le_refl _) _ _ _ _ _ _⟩
         simp [results, parseV, kpVal, KP.zero, Tryz.results81, go_sem, *]
       | true =>
         go_wp2_with fail
         refine (C6.out _).mono ?_
         rintro e w3 ⟨rfl, b3⟩
         have y1 := x1.later b3 l1
         have y2 := x2.later b3 l2
         have y3 := bt x3 b3
         clear d0 d1 d2 d3 d4 d5 d6 d7 e0 e1 e2 e3 e4 e5 f0 f1 f2 f3 f4 f5 x1 x2 x3
         obtain ⟨e0, e1, e2, e3, e4, e5⟩ := y1.cell
         try dsimp only at e0 e1 e2 e3 e4 e5
         obtain ⟨f0, f1, f2, f3, f4, f5⟩ := y1.frees
         obtain ⟨d0, d1, d2, d3, d4, d5, d6, d7⟩ := y2.cell
         try dsimp only at d0 d1 d2 d3 d4 d5 d6 d7
         go_wp2_with fail
         refine bodyPost_ret (v := parseV (some ⟨120, b, c, a, sv, ho⟩)) ?_ rfl ⟨rfl, below_set6 y3 (Nat.le_refl _) _ _ _ _ _ _⟩
         simp [results, parseV, kpVal, Tryz.results81, go_sem, *]
theorem refParse_any (l : List UInt8) (hl : l.length ≤ 140737488351232) (w : World) :
 Calls Tryz.prog 81 #[.string ⟨l.toArray⟩] w fun e w' => e = .returned (parseV (parseK l)) ∧ Below w.heap.size w w' := by
 by_cases h1 : l.length = 17 ∧ l.head? = some 115
 · obtain ⟨r, rfl⟩ := head_cons h1.2
   exact refParse_s r (by simpa using h1.1) w
 · by_cases h2 : l.head? = some 120
   · obtain ⟨r, rfl⟩ := head_cons h2
     simp only [List.length_cons] at hl
     have g17 : ((r.length : Int) + 1 == 17) = false ∨ ((r.length : Int) + 1 == 17) = true := by cases ((r.length : Int) + 1 == 17) <;> simp
     cases hz : nz r with
     | true =>
       have e : parseK (120 :: r) = none := parse_not r (by rw [cut0_false (l := r) (by simp [cut0, hz])]; rfl)
       rw [e]
       exact refParse_x1 r (by omega) g17 hz w
     | false =>
       cases h2' : nz (cut0 r).2.1 with
       | true =>
         have e : parseK (120 :: r) = none := parse_not r (by rw [cut0_false (l := (cut0 r).2.1) (by simp only [cut0, Bool.not_eq_false']; exact h2')])
         rw [e]
         exact refParse_x2 r (by omega) g17 hz (.inl h2') w
       | false =>
         by_cases h24 : (cut0 (cut0 r).2.1).2.1.length = 24
         · have hr : ((r.length : Int) + 1 == 17) = false := by
            obtain ⟨m1, _, _⟩ := cut0_len hz
            obtain ⟨m2, _, _⟩ := cut0_len h2'
            rw [beq_eq_false_iff_ne]
            omega
           exact refParse_x3 r (by omega) hr hz h2' h24 w
         · have e : parseK (120 :: r) = none := by
            rw [parseK, if_neg (by decide), if_pos rfl]
            have : big3 (cut0 (cut0 r).2.1).2.1 = none := by unfold big3; rw [if_neg h24]
            rw [this]
            simp
           rw [e]
           exact refParse_x2 r (by omega) g17 hz (.inr ⟨h2', h24⟩) w
   · have e : parseK l = none := by
      by_cases h3 : l.head? = some 115
      · obtain ⟨r, rfl⟩ := head_cons h3
        rw [parseK, if_pos rfl]
        have : big2 r = none := by
         unfold big2
         rw [if_neg]
         intro h
         exact h1 ⟨by simp [h], rfl⟩
        rw [this]
      · exact parse_other h3 h2
     rw [e]
     exact refParse_short l hl h1 h2 w
theorem refRow_any (l : List UInt8) (hl : l.length ≤ 140737488351232) (w : World) :
 Calls Tryz.prog 58 #[.string ⟨l.toArray⟩] w fun e w' => e = .returned (.string ⟨(rowK l).toArray⟩) ∧ Below w.heap.size w w' := by
 have c := fun W => refParse_any l hl W
 unfold rowK
 cases hp : parseK l with
 | none =>
   rw [hp] at c
   unfold parseV kpVal KP.zero at c
   have C := Lib.hid c
   clear c hp
   go_enter Tryz.func58, Tryz.ntmps58
   go_wp2_with fail
   refine (C.out _).mono ?_
   rintro e w1 ⟨rfl, b1⟩
   go_wp2_with fail
   go_ret
   exact ⟨rfl, b1.alloc b1.size _⟩
 | some p =>
   rw [hp] at c
   unfold parseV kpVal at c
   have C := Lib.hid c
   obtain ⟨hk, hor⟩ := parseK_some hp
   clear c hp
   by_cases h5 : p.kind = 115
   · have hkb : ((p.kind : Int) == 115) = true := by rw [h5]; rfl
     have h9 : 9 ≤ l.length := by
      unfold KP.key at hk
      split at hk
      · have hk2 : some (sKey p.tr p.id) = some l := by simpa [h5] using hk
        rw [Option.some.injEq] at hk2
        rw [← hk2, sKey_length]
        omega
      · cases hk
     have hsl := slice_head l 9 9 rfl h9
     simp only [h5, if_true]
     have H5 := Lib.hid h5
     clear hk hor h5
     go_enter Tryz.func58, Tryz.ntmps58
     go_wp2_with fail
     refine (C.out _).mono ?_
     rintro e w1 ⟨rfl, b1⟩
     go_wp2_with fail
     go_ret
     exact ⟨rfl, b1.alloc b1.size _⟩
   · have hkb : ((p.kind : Int) == 115) = false := by rw [beq_eq_false_iff_ne]; omega
     simp only [h5, if_false]
     have H5 := Lib.hid h5
     clear hk hor h5
     go_enter Tryz.func58, Tryz.ntmps58
     go_wp2_with fail
     refine (C.out _).mono ?_
     rintro e w1 ⟨rfl, b1⟩
     go_wp2_with fail
     go_ret
     exact ⟨rfl, b1.alloc b1.size _⟩
end Go.Proofs.YtoglloafpnopaaaGreat
