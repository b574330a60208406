/- The walk of Take: which spans are taken, and their cells. -/
import Derived.Test.YtfkjdjdgcegniaaRowsF
import Derived.Maps.Own
import Derived.Maps.OwnOps
import Derived.Maps.Views
import Derived.StringKeys
namespace Go.Proofs.Ytfkjdjdgcegniaa
set_option maxRecDepth 16000
open Go.RowKit Spoor Go.Maps
set_option linter.unusedVariables false

theorem mlaw : Keyed Try.prog 9 := string_keyed Try.underlying9
theorem mzero (w : World) : (zeroValue 3).run Try.prog w = .ok (.int .i64 0) w := by kernel_rfl
theorem mkey (l : List UInt8) (h : l.length ≤ 140737488351232) : keyOf Try.prog 9 (.string ⟨l.toArray⟩) = some (.string l) :=
  Go.WideMaps.keyOf_string_mk Try.underlying9 (by show l.toArray.size ≤ maxLen; unfold maxLen; simp; omega)
/-- how often a key was seen -/
def seenN (acc : List Sp) (key : List UInt8) : Int := if (acc.any fun y => sKey y.tr y.id == key) = true then 1 else 0
def MapOf (b m : Nat) (acc : List Sp) (w : World) : Prop := ∃ D : DataW Unit, w.ownsMap Try.prog 9 (plainElem Try.prog 3) b m D ∧ IsMap D ∧ ∀ key : List UInt8, D.atKey (.string key) (.lit (.int .i64 0)) = .lit (.int .i64 (seenN acc key))
theorem MapOf.later {b m : Nat} {acc : List Sp} {w w' : World} (h : MapOf b m acc w) (hb : Below w.heap.size w w') : MapOf b m acc w' := by
  obtain ⟨D, h1, h2, h3⟩ := h
  exact ⟨D, h1.kept (row := none) ⟨hb.os, hb.tape, hb.output, hb.size, fun k hk _ => hb.block k hk⟩ (by simp), h2, h3⟩
theorem MapOf.up {b m m' : Nat} {acc : List Sp} {w : World} (h : MapOf b m acc w) (hm : m ≤ m') : MapOf b m' acc w := by
  obtain ⟨D, h1, h2⟩ := h
  exact ⟨D, h1.mono hm, h2⟩
theorem seen_no {get : List UInt8 → Option Ce} {now : Int} {acc : List Sp} {x : Sp} (hx : x.ok = true) (hl : lateB x.st now = false) (h : seenN acc (sKey x.tr x.id) = 0) : taken get now acc x = freeR (get (sKey x.tr x.id)) now := by
  unfold seenN at h
  unfold taken
  rw [hx, hl]
  split at h
  · cases h
  · rename_i h2
    rw [Bool.not_eq_true] at h2
    rw [h2]
    simp
theorem seen_yes {get : List UInt8 → Option Ce} {now : Int} {acc : List Sp} {x : Sp} (h : seenN acc (sKey x.tr x.id) ≠ 0) : taken get now acc x = false := by
  unfold seenN at h
  unfold taken
  split at h
  · rename_i h2
    rw [h2]
    simp
  · exact absurd rfl h
theorem seenN_one {acc : List Sp} {key : List UInt8} (h : ¬ seenN acc key = 0) : seenN acc key = 1 := by
  unfold seenN at h ⊢
  split
  · rfl
  · rename_i h2
    rw [if_neg h2] at h
    exact absurd rfl h
theorem seenN_more (acc : List Sp) (x : Sp) (key : List UInt8) : seenN (acc ++ [x]) key = if sKey x.tr x.id = key then 1 else seenN acc key := by
  unfold seenN
  rw [List.any_append]
  simp only [List.any_cons, List.any_nil, Bool.or_false, Bool.or_eq_true, beq_iff_eq]
  by_cases h : sKey x.tr x.id = key
  · rw [if_pos h, if_pos (.inr h)]
  · rw [if_neg h]
    simp [h]
theorem MapOf.put {b m : Nat} {acc : List Sp} {x : Sp} {w' : World} {D : DataW Unit} (h2 : IsMap D) (h3 : ∀ key : List UInt8, D.atKey (.string key) (.lit (.int .i64 0)) = .lit (.int .i64 (seenN acc key)))
    (hk : WideAt.IsKeyLit (.string (sKey x.tr x.id))) (h1 : w'.ownsMap Try.prog 9 (plainElem Try.prog 3) b (m + 1) (D.put (.string (sKey x.tr x.id)) (.lit (.int .i64 1)))) : MapOf b (m + 1) (acc ++ [x]) w' := by
  refine ⟨_, h1, h2.put _ _, fun key => ?_⟩
  rw [seenN_more]
  by_cases e : sKey x.tr x.id = key
  · rw [if_pos e, ← e, atKey_put_same h2 hk]
  · rw [if_neg e, atKey_put_other (fun h => e (by injection h with h; exact h.symm)), h3]
structure TkAt (w : World) (p : Nat) (S : List Ce) (v : Value) (l : List Sp) (now : Int) (k : Nat) (o c : Value) (acc : List Sp) (wr : World) : Prop where
  le : k ≤ l.length
  acc' : acc = takeR (lastOf S) now [] (l.take k)
  len : acc.length ≤ k
  own1 : wr.ownsRow w.heap.size 23 8 o acc.length (rowS acc)
  own2 : wr.ownsRow w.heap.size 25 3 c (2 * acc.length) (rowOf (cellsOf acc))
  map : MapOf w.heap.size k acc wr
  sh : ShAt p S wr
  sl : SlS v l wr
  bel : Below w.heap.size w wr
theorem own_laterC {w w' : World} {base n : Nat} {v : Value} {xs : List Value} {e : TypeId} (h : w.ownsRow base e 3 v n xs) (hb : Below w.heap.size w w') : w'.ownsRow base e 3 v n xs :=
  h.kept (row := none) ⟨hb.os, hb.tape, hb.output, hb.size, fun k hk _ => hb.block k hk⟩ (by cases h : v.ownBlock <;> simp)
theorem TkAt.later {w : World} {p : Nat} {S : List Ce} {v : Value} {l : List Sp} {now : Int} {k : Nat} {o c : Value} {acc : List Sp} {wr w' : World} (h : TkAt w p S v l now k o c acc wr) (hb : Below wr.heap.size wr w') : TkAt w p S v l now k o c acc w' :=
  ⟨h.le, h.acc', h.len, own_laterS h.own1 hb, own_laterC h.own2 hb, h.map.later hb, h.sh.later hb, h.sl.later hb, btP h.bel hb⟩
theorem TkAt.skip {w : World} {p : Nat} {S : List Ce} {v : Value} {l : List Sp} {now : Int} {k : Nat} {o c : Value} {acc : List Sp} {wr : World} (h : TkAt w p S v l now k o c acc wr) (hk : k < l.length) (ht : taken (lastOf S) now acc (l.getD k Sp.zero) = false) : TkAt w p S v l now (k + 1) o c acc wr := by
  refine ⟨by omega, ?_, by have := h.len; omega, h.own1, h.own2, h.map.up (by omega), h.sh, h.sl, h.bel⟩
  rw [take_sp l k hk, takeR_snoc, ← h.acc', ht]
  rfl
theorem box_latS {w : World} (o : Obj) : Below w.heap.size w (w.alloc o) := (Below.refl _ _).alloc (Nat.le_refl _) o
theorem cells_news {g : Nat} {x : Sp} {w : World} (h : TwoAt g (cellA x) (cellI x) w) : ∀ j u, (rowOf [cellA x, cellI x])[j]? = some u → w.cell? ((⟨g, 0, none⟩ : Addr).add j) = some u := World.news_of_block h
theorem row_more (acc : List Sp) (x : Sp) : rowOf (cellsOf acc) ++ rowOf [cellA x, cellI x] = rowOf (cellsOf (acc ++ [x])) := by
  rw [cellsOf_snoc]
  simp [rowOf]
theorem own_apart {w : World} {b1 b2 n1 n2 : Nat} {v1 v2 : Value} {xs1 xs2 : List Value} (h1 : w.ownsRow b1 23 8 v1 n1 xs1) (h2 : w.ownsRow b2 25 3 v2 n2 xs2) : ∀ g, v1.ownBlock = some g → v2.ownBlock ≠ some g := by
  intro g e1 e2
  rcases h1.2 with ⟨rfl, _⟩ | ⟨g1, cap1, cur1, rfl, _, hg1, _⟩
  · cases e1
  · rcases h2.2 with ⟨rfl, _⟩ | ⟨g2, cap2, cur2, rfl, _, hg2, _⟩
    · cases e2
    · simp only [Value.ownBlock, Option.some.injEq] at e1 e2
      subst e1 e2
      rw [hg1] at hg2
      simp only [Option.some.injEq, Obj.cells.injEq] at hg2
      exact absurd hg2.2.1 (by decide)
theorem kept_c {w w' : World} {b1 b2 n1 n2 : Nat} {v1 v2 : Value} {xs1 xs2 : List Value} (h1 : w.ownsRow b1 23 8 v1 n1 xs1) (h2 : w.ownsRow b2 25 3 v2 n2 xs2) (gr : w.grownBy w' v1.ownBlock) : w'.ownsRow b2 25 3 v2 n2 xs2 := by
  refine h2.kept gr ?_
  cases hv : v2.ownBlock with
  | none => exact .inl rfl
  | some g => exact .inr (fun e => own_apart h1 h2 g e.symm hv)
theorem kept_o {w w' : World} {b1 b2 n1 n2 : Nat} {v1 v2 : Value} {xs1 xs2 : List Value} (h1 : w.ownsRow b1 23 8 v1 n1 xs1) (h2 : w.ownsRow b2 25 3 v2 n2 xs2) (gr : w.grownBy w' v2.ownBlock) : w'.ownsRow b1 23 8 v1 n1 xs1 := by
  refine h1.kept gr ?_
  cases hv : v1.ownBlock with
  | none => exact .inl rfl
  | some g => exact .inr (fun e => own_apart h1 h2 g hv e.symm)
theorem two_kept {g : Nat} {a b : Ce} {w w' : World} {b1 n1 : Nat} {v1 : Value} {xs1 : List Value} (tw : TwoAt g a b w) (h1 : w.ownsRow b1 23 8 v1 n1 xs1) (gr : w.grownBy w' v1.ownBlock) : TwoAt g a b w' := by
  refine (gr.block g tw.row.1 (fun e => ?_)).trans tw
  rcases h1.2 with ⟨rfl, _⟩ | ⟨g1, cap1, cur1, rfl, _, hg1, _⟩
  · simp [Value.ownBlock] at e
  · simp only [Value.ownBlock, Option.some.injEq] at e
    subst e
    unfold TwoAt at tw
    rw [hg1] at tw
    simp only [Option.some.injEq, Obj.cells.injEq] at tw
    exact absurd tw.2.1 (by decide)
/-- behind the store into the map -/
theorem TkAt.noted {w : World} {p : Nat} {S : List Ce} {v : Value} {l : List Sp} {now : Int} {k : Nat} {o c : Value} {acc : List Sp} {wr w' : World} {x : Sp} (h : TkAt w p S v l now k o c acc wr) (hp : p < w.heap.size) (h0 : ShAt p S w) (hs : SlS v l w) (gr : wr.grownBy w' (some w.heap.size)) (hm : MapOf w.heap.size (k + 1) (acc ++ [x]) w') :
    w'.ownsRow w.heap.size 23 8 o acc.length (rowS acc) ∧ w'.ownsRow w.heap.size 25 3 c (2 * acc.length) (rowOf (cellsOf acc)) ∧ Below w.heap.size w w' := by
  obtain ⟨D, hD, _⟩ := h.map
  obtain ⟨es, clock, hb, _⟩ := hD
  refine ⟨h.own1.kept gr (.inr ?_), h.own2.kept gr (.inr ?_), h.bel.grown gr h.bel.size (fun j hj => by cases hj; exact Nat.le_refl _)⟩
  · intro e
    rcases h.own1.2 with ⟨rfl, _⟩ | ⟨g1, cap1, cur1, rfl, _, hg1, _⟩
    · simp [Value.ownBlock] at e
    · simp only [Value.ownBlock, Option.some.injEq] at e
      rw [← e] at hb
      rw [hg1] at hb
      cases hb
  · intro e
    rcases h.own2.2 with ⟨rfl, _⟩ | ⟨g1, cap1, cur1, rfl, _, hg1, _⟩
    · simp [Value.ownBlock] at e
    · simp only [Value.ownBlock, Option.some.injEq] at e
      rw [← e] at hb
      rw [hg1] at hb
      cases hb
/-- the round's end, a span being taken -/
theorem TkAt.more {w : World} {p : Nat} {S : List Ce} {v : Value} {l : List Sp} {now : Int} {k : Nat} {o c o' c' : Value} {acc : List Sp} {wr w1 w2 w3 : World} {x : Sp} (h : TkAt w p S v l now k o c acc wr) (hk : k < l.length) (hx : l.getD k Sp.zero = x) (ht : taken (lastOf S) now acc x = true)
    (h0 : ShAt p S w) (hs : SlS v l w)
    (own1 : w3.ownsRow w.heap.size 23 8 o' (acc.length + 1) (rowS acc ++ spRow x)) (own2 : w3.ownsRow w.heap.size 25 3 c' (2 * acc.length + 2) (rowOf (cellsOf acc) ++ rowOf [cellA x, cellI x])) (hm : MapOf w.heap.size (k + 1) (acc ++ [x]) w3) (bel : Below w.heap.size w w3) : TkAt w p S v l now (k + 1) o' c' (acc ++ [x]) w3 := by
  refine ⟨by omega, ?_, by have := h.len; simp; omega, ?_, ?_, hm, h0.later bel, hs.later bel, bel⟩
  · rw [take_sp l k hk, takeR_snoc, ← h.acc', hx, ht]
    rfl
  · rw [rowS_snoc, List.length_append]
    exact own1
  · rw [row_more] at own2
    rw [List.length_append, show 2 * (acc.length + [x].length) = 2 * acc.length + 2 by simp; omega]
    exact own2
theorem MapOf.grown {b m : Nat} {acc : List Sp} {w w' : World} {row : Option Nat} (h : MapOf b m acc w) (gr : w.grownBy w' row) (hne : some b ≠ row) : MapOf b m acc w' := by
  obtain ⟨D, h1, h2⟩ := h
  exact ⟨D, h1.kept gr hne, h2⟩
theorem MapOf.not_row {b m bb : Nat} {acc : List Sp} {w : World} {e : TypeId} {sz n : Nat} {v : Value} {xs : List Value} (h : MapOf b m acc w) (own : w.ownsRow bb e sz v n xs) : some b ≠ v.ownBlock := by
  intro he
  obtain ⟨D, ⟨es, clock, hb, _⟩, _⟩ := h
  rcases own.2 with ⟨rfl, _⟩ | ⟨g1, cap1, cur1, rfl, _, hg1, _⟩
  · simp [Value.ownBlock] at he
  · simp only [Value.ownBlock, Option.some.injEq] at he
    rw [← he] at hg1
    rw [hg1] at hb
    cases hb
/-- what Take tells -/
def TakeEx (S : List Ce) (l : List Sp) (now : Int) (w : World) (e : Ending) (w' : World) : Prop :=
  Below w.heap.size w w' ∧ ∃ o c, e = .returned (.tuple #[o, c]) ∧ w'.ownsRow w.heap.size 23 8 o (takeR (lastOf S) now [] l).length (rowS (takeR (lastOf S) now [] l)) ∧ w'.ownsRow w.heap.size 25 3 c (2 * (takeR (lastOf S) now [] l).length) (rowOf (cellsOf (takeR (lastOf S) now [] l)))
set_option maxHeartbeats 16000000 in
theorem take_spans_any (p : Nat) (S : List Ce) (v : Value) (l : List Sp) (now : Int) (w : World) (hsh : ShAt p S w) (hlS : S.length ≤ 1000000) (hs : SlS v l w) (hf : ∀ x ∈ l, Fits x) (hst : ∀ x ∈ l, I64 x.st) (hn : I64 now) (hl : l.length ≤ 100000) :
    Calls Try.prog 19 #[.func (.func 20) #[.pointer (some ⟨p, 0, none⟩)] #[], v, .int .i64 now] w (TakeEx S l now w) := by
  have HS := Lib.hid hs
  have SH := Lib.hid hsh
  have hmm := @run_makeMap Try.prog
  obtain ⟨i0, hi, hz0, hz1, hz2⟩ := info_parts info_sp
  obtain ⟨j0, gi, gz0, gz1, gz2⟩ := info_parts info_ce
  obtain ⟨A, cap, rfl, h1, h2, h3⟩ := hs
  unfold maxLen at h2
  have H3 := Lib.hid h3
  have HF := Lib.hid hf
  have HT := Lib.hid hst
  have HI := Lib.hid hn
  have CG := Lib.hid (fun (key : List UInt8) (W : World) (h : ShAt p S W) => get_sh_any p S key W h hlS)
  have HP : Hid (p < w.heap.size) := Lib.hid (by obtain ⟨v2, hv2, _⟩ := hsh.at'; exact (Array.getElem?_eq_some_iff.1 hv2).1)
  obtain ⟨n, hnn⟩ : ∃ n, l.length = n := ⟨_, rfl⟩
  have HN := Lib.hid hnn
  have b0 := (Below.refl w.heap.size w).alloc (Nat.le_refl _) (.map #[] 0)
  have M0 : TkAt w p S (.slice A l.length cap) l now 0 (.slice none 0 0) (.slice none 0 0) [] (w.alloc (.map #[] 0)) :=
    ⟨by omega, by simp [takeR], by simp, World.ownsRow_nil _ _ _ _, World.ownsRow_nil _ _ _ _, ⟨_, World.ownsMap_made _ _ _ _, isMap_empty, fun key => rfl⟩, hsh.later b0, HS.out.later b0, b0⟩
  rw [hnn] at h1 hl M0 HS ⊢
  have M := Lib.hid M0
  clear h3 hf hst hn hnn M0 hsh b0 hlS
  go_enter Try.func19, Try.ntmps19
  go_wp2_with fail
  go_loopw [8, 9, 20] (fun o c i wr => ∃ (k : Nat) (acc : List Sp), i = .int .i64 k ∧ Hid (TkAt w p S (.slice A n cap) l now k o c acc wr)) (fun _ _ i _ => n - (intOf i).toNat)
  case atStart => exact ⟨0, [], rfl, M⟩
  case round =>
    obtain ⟨k, acc, rfl, M⟩ := hrel
    have hkn : k ≤ n := by have := M.out.le; rw [HN.out] at this; exact this
    by_cases hlt : k < n
    · have hkl : k < l.length := by rw [HN.out]; exact hlt
      obtain ⟨bb, oo, rfl, hrow0⟩ := H3.out (by omega)
      have hrow := hrow0.later M.out.bel hrow0.1
      obtain ⟨x0, x1, x2, x3, x4, x5, x6, x7⟩ := hrow.cells hkl
      have ltb := hrow.1
      have hfx := getS_lt HF.out hkl
      have htx := getS_lt HT.out hkl
      have cc := fun W => cells_any (l.getD k Sp.zero) W hfx
      have ce := fun W => expired_any (l.getD k Sp.zero) now W htx HI.out
      have HSK := Lib.hid (M.out.skip hkl)
      have HMO := Lib.hid (fun x (hx : l.getD k Sp.zero = x) => fun (o' c' : Value) (w3 : World) (ht : taken (lastOf S) now acc x = true) own1 own2 hm bel => (M.out.more (o' := o') (c' := c') (w1 := w) (w2 := w) (w3 := w3) hkl hx ht SH.out HS.out own1 own2 hm bel))
      clear hrow hrow0 hkl hfx htx
      obtain ⟨x, hx⟩ : ∃ x, l.getD k Sp.zero = x := ⟨_, rfl⟩
      have HMO := Lib.hid (HMO.out x hx)
      rw [hx] at x0 x1 x2 x3 x4 x5 x6 x7 cc ce HSK
      clear hx
      unfold spVal at cc ce
      have CC := Lib.hid cc
      have hbx := spBox x wr
      have M0W := Lib.hid M.out
      have M1 := Lib.hid (M.out.later hbx)
      have HBX := Lib.hid hbx
      obtain ⟨d0, d1, d2, d3, d4, d5, d6, d7⟩ := (SpAt.boxed x wr).cell
      have QX := Lib.hid (SpAt.boxed x wr)
      have HE := Lib.hid ce
      clear cc ce hbx

      cases hxo : x.ok with
      | false =>
        have ht : taken (lastOf S) now acc x = false := by unfold taken; rw [hxo]; rfl
        have SK := Lib.hid (HSK.out ht)
        have HXO := Lib.hid hxo
        clear hxo ht
        go_wp2_with fail
        refine (CC.out _).mono ?_
        rintro e w1 ⟨b1, hh⟩
        rcases hh with ⟨-, rfl⟩ | ⟨ho, -⟩
        · have SK := Lib.hid ((SK.out.later HBX.out).later b1)
          clear b1 d0 d1 d2 d3 d4 d5 d6 d7
          go_wp2_with fail
          go_roundw
          case rel => exact ⟨k + 1, acc, by go_num, SK⟩
          case measure => simp [intOf]; omega
        · rw [HXO.out] at ho; cases ho
      | true =>
        have HXO := Lib.hid hxo
        clear hxo
        go_wp2_with fail
        refine (CC.out _).mono ?_
        rintro e w1 ⟨b1, hh⟩
        rcases hh with ⟨ho, -⟩ | ⟨-, g, hg, rfl, tw⟩
        · rw [HXO.out] at ho; cases ho
        · have M := Lib.hid (M1.out.later b1)
          have TW := Lib.hid tw
          have HG : Hid (wr.heap.size ≤ g) := Lib.hid (by have h := hg; rw [alloc_size] at h; omega)
          have HWR : Hid (w.heap.size < wr.heap.size) := Lib.hid (by obtain ⟨D, ⟨es, clock, hb, _⟩, _⟩ := M0W.out.map; exact (Array.getElem?_eq_some_iff.1 hb).1)
          have HB1 := Lib.hid b1
          have QX := Lib.hid (SpAt.later QX.out b1 (SpAt.lt QX.out))
          clear b1 tw hg d0 d1 d2 d3 d4 d5 d6 d7
          obtain ⟨d0, d1, d2, d3, d4, d5, d6, d7⟩ := SpAt.cell QX.out
          cases hlx : lateB x.st now with
          | true =>
            have ht : taken (lastOf S) now acc x = false := by unfold taken; rw [HXO.out, hlx]; rfl
            have SK := Lib.hid (((HSK.out ht).later HBX.out).later HB1.out)
            have ce := HE.out
            rw [hlx] at ce
            have CE := Lib.hid ce
            clear ce hlx ht
            go_wp2_with fail
            refine (CE.out _).mono ?_
            rintro e w2 ⟨rfl, b2⟩
            have SK := Lib.hid (SK.out.later b2)
            clear b2 d0 d1 d2 d3 d4 d5 d6 d7
            go_wp2_with fail
            go_roundw
            case rel => exact ⟨k + 1, acc, by go_num, SK⟩
            case measure => simp [intOf]; omega
          | false =>
            have ce := HE.out
            rw [hlx] at ce
            have CE := Lib.hid ce
            have HLX := Lib.hid hlx
            clear ce hlx
            obtain ⟨K, hK⟩ : ∃ K, sKey x.tr x.id = K := ⟨_, rfl⟩
            have HKK := Lib.hid hK
            have HKL : Hid (K.length ≤ 140737488351232) := Lib.hid (by rw [← hK, sKey_length]; omega)
            clear hK
            go_wp2_with fail
            refine (CE.out _).mono ?_
            rintro e w2 ⟨rfl, b2⟩
            have M := Lib.hid (M.out.later b2)
            have TW := Lib.hid (TW.out.later b2)
            have QX := Lib.hid (SpAt.later QX.out b2 (SpAt.lt QX.out))
            have SKB := Lib.hid b2
            clear b2 d0 d1 d2 d3 d4 d5 d6 d7
            obtain ⟨D, hD, hIM, hat⟩ := M.out.map
            obtain ⟨cnt, hrun, hat2, _⟩ := hD.lookup_int mlaw Try.underlying71 Try.underlying3 (mzero _) (mkey K HKL.out)
            have hc0 : cnt = seenN acc K := by have h := (hat K).symm.trans hat2; injection h with h; injection h with _ h; exact h.symm
            obtain ⟨⟨c00, c01, c02⟩, _⟩ := TW.out.cell
            rw [show (cellA x).k = K from HKK.out] at c00
            clear hat hat2 hIM hD
            by_cases hsn : seenN acc K = 0
            · have HSN := Lib.hid hsn
              rw [hsn] at hc0
              subst hc0
              clear hsn
              go_wp2_with fail
              refine (CG.out K _ M.out.sh).mono ?_
              have HFR := Lib.hid (seen_no (get := lastOf S) (now := now) (acc := acc) HXO.out HLX.out (by rw [HKK.out]; exact HSN.out))
              rintro e w3 ⟨rfl, b3⟩
              have M := Lib.hid (M.out.later b3)
              have TW := Lib.hid (TW.out.later b3)
              have QX := Lib.hid (SpAt.later QX.out b3 (SpAt.lt QX.out))
              have HB3 := Lib.hid b3
              clear b3 c00 c01 c02 hrun
              cases hlo : lastOf S K with
              | none =>
                have htk : taken (lastOf S) now acc x = true := by rw [HFR.out, HKK.out, hlo]; rfl
                have cb := box_latS (w := w3) (boxC Ce.zero)
                have M := Lib.hid (M.out.later cb)
                have TW := Lib.hid (TW.out.later cb)
                have QX := Lib.hid (SpAt.later QX.out cb (SpAt.lt QX.out))
                unfold boxC Ce.zero at M TW QX
                clear hlo cb
                unfold getShV ceVal Ce.zero
                have HTK := Lib.hid htk
                clear htk
                obtain ⟨D, hD, hIM, hat⟩ := M.out.map
                obtain ⟨cnt, hrun, hat2, _⟩ := hD.lookup_int mlaw Try.underlying71 Try.underlying3 (mzero _) (mkey K HKL.out)
                have hc0 : cnt = 0 := by have h := (hat K).symm.trans hat2; rw [HSN.out] at h; injection h with h; injection h with _ h; exact h.symm
                subst hc0
                obtain ⟨⟨c00, c01, c02⟩, _⟩ := TW.out.cell
                rw [show (cellA x).k = K from HKK.out] at c00
                clear hat2
                have HIM := Lib.hid hIM
                have HAT := Lib.hid hat
                clear hIM hat
                go_wp2_with (at_mapUpdate; refine wpList_mapUpdate_own _ rfl _ _ _ 71 rfl 9 3 mlaw Try.underlying71 _ w.heap.size k _ rfl hD (by unfold maxLen; omega) _ _ _ rfl rfl (mkey K HKL.out) _ [] (plainElem_int Try.underlying3 (by decide)) ?_)
                intro wm ownm grm
                have hm : MapOf w.heap.size (k + 1) (acc ++ [x]) wm := MapOf.put HIM.out HAT.out (by rw [HKK.out]; trivial) (by rw [HKK.out]; exact ownm)
                obtain ⟨o1, o2, B⟩ := M.out.noted HP.out SH.out HS.out grm hm
                have qx : SpAt wr.heap.size x wm := (grm.block _ (SpAt.lt QX.out) (fun e => by have := HWR.out; simp at e; omega)).trans QX.out
                have tw : TwoAt g (cellA x) (cellI x) wm := (grm.block _ TW.out.row.1 (fun e => by have := HG.out; have := HWR.out; simp at e; omega)).trans TW.out
                have hal := M.out.len
                have HM := Lib.hid hm
                have TW := Lib.hid tw
                obtain ⟨d0, d1, d2, d3, d4, d5, d6, d7⟩ := qx.cell
                have o1a := o1.alloc (boxX x)
                have o2a := o2.alloc (boxX x)
                have hba := B.alloc B.size (boxX x)
                have TWA := Lib.hid (TW.out.later (box_latS (w := wm) (boxX x)))
                have HMA := Lib.hid (HM.out.later (box_latS (w := wm) (boxX x)))
                unfold boxX at o1a o2a hba TWA HMA
                have HBA := Lib.hid hba
                have hbs := hba.size
                have O2 := Lib.hid o2a
                have O1 := Lib.hid o1a
                clear hm tw qx o1 o2 B ownm grm hrun hD hba o2a c00 c01 c02
                go_wp2_with (at_builtin; refine wpList_append_lies _ rfl _ _ 27 rfl w.heap.size 23 i0 (.agg #[.int .i64 0, .int .i64 0, .int .i64 0, .string ⟨#[]⟩, .string ⟨#[]⟩, .int .i64 0, .int .i64 0, .string ⟨#[]⟩]) 8 88 Try.underlying27 hi hz0 hz1 hz2 rfl (by decide) _ acc.length (rowS acc) rfl o1a ⟨wm.heap.size, 0, none⟩ 1 1 (spRow x) rfl rfl (World.news_of_block (SpAt.boxed x wm)) (spRow_one x) (by decide) (by unfold maxLen; omega) (by omega) hbs _ rfl ?_)
                intro g1 gc1 wa owna gra alta lta
                have own2b := kept_c O1.out O2.out gra
                have tw2 := two_kept TWA.out O1.out gra
                have hm2 := HMA.out.grown gra (HMA.out.not_row O1.out)
                have hbb := HBA.out.grown gra HBA.out.size (fun j hj => (O1.out.lt j hj).1)
                have hbs2 := hbb.size
                have OA := Lib.hid owna
                have OB := Lib.hid own2b
                have HM2 := Lib.hid hm2
                have HBB := Lib.hid hbb
                clear d0 d1 d2 d3 d4 d5 d6 d7 gra alta lta owna hm2 hbb o1a hbs
                go_wp2_with (at_builtin; refine wpList_append_lies _ rfl _ _ 29 rfl w.heap.size 25 j0 (.agg #[.string ⟨#[]⟩, .int .i64 0, .string ⟨#[]⟩]) 3 40 Try.underlying29 gi gz0 gz1 gz2 rfl (by decide) _ (2 * acc.length) (rowOf (cellsOf acc)) rfl own2b ⟨g, 0, none⟩ 2 2 (rowOf [cellA x, cellI x]) rfl rfl (cells_news tw2) (rowOf_one _) (by decide) (by unfold maxLen; omega) (by omega) hbs2 _ rfl ?_)
                intro g2 gc2 wb ownb grb altb ltb
                have MM := Lib.hid (HMO.out _ _ _ HTK.out (kept_o OA.out OB.out grb) ownb (HM2.out.grown grb (HM2.out.not_row OB.out)) (HBB.out.grown grb HBB.out.size (fun j hj => (OB.out.lt j hj).1)))
                clear own2b tw2 hbs2 ownb grb altb ltb
                go_wp2_with fail
                go_roundw
                case rel => exact ⟨k + 1, acc ++ [x], by go_num, MM⟩
                case measure => simp [intOf]; omega
              | some old =>
                have hfo : FitsC old := SH.out.fits old (lastOf_some hlo).1
                have cdr := fun W => dropped_any old now W hfo HI.out
                have cb := box_latS (w := w3) (boxC old)
                have M := Lib.hid (M.out.later cb)
                have TW := Lib.hid (TW.out.later cb)
                have QX := Lib.hid (SpAt.later QX.out cb (SpAt.lt QX.out))
                have HCB := Lib.hid cb
                obtain ⟨k0, k1, k2⟩ := (CeAt.boxed old w3).cell
                have HLO := Lib.hid hlo
                unfold boxC at M TW QX HCB k0 k1 k2
                unfold ceVal at cdr
                clear hlo cb hfo
                unfold getShV ceVal
                cases hdr : dropR old now with
                | true =>
                  rw [hdr] at cdr
                  have CDR := Lib.hid cdr
                  have htk : taken (lastOf S) now acc x = true := by rw [HFR.out, HKK.out, HLO.out]; exact hdr
                  clear cdr hdr
                  go_wp2_with fail
                  refine (CDR.out _).mono ?_
                  rintro e w4 ⟨rfl, b4⟩
                  have M := Lib.hid (M.out.later b4)
                  have TW := Lib.hid (TW.out.later b4)
                  have QX := Lib.hid (SpAt.later QX.out b4 (SpAt.lt QX.out))
                  clear b4 k0 k1 k2
                  have HTK := Lib.hid htk
                  clear htk
                  obtain ⟨D, hD, hIM, hat⟩ := M.out.map
                  obtain ⟨cnt, hrun, hat2, _⟩ := hD.lookup_int mlaw Try.underlying71 Try.underlying3 (mzero _) (mkey K HKL.out)
                  have hc0 : cnt = 0 := by have h := (hat K).symm.trans hat2; rw [HSN.out] at h; injection h with h; injection h with _ h; exact h.symm
                  subst hc0
                  obtain ⟨⟨c00, c01, c02⟩, _⟩ := TW.out.cell
                  rw [show (cellA x).k = K from HKK.out] at c00
                  clear hat2
                  have HIM := Lib.hid hIM
                  have HAT := Lib.hid hat
                  clear hIM hat
                  go_wp2_with (at_mapUpdate; refine wpList_mapUpdate_own _ rfl _ _ _ 71 rfl 9 3 mlaw Try.underlying71 _ w.heap.size k _ rfl hD (by unfold maxLen; omega) _ _ _ rfl rfl (mkey K HKL.out) _ [] (plainElem_int Try.underlying3 (by decide)) ?_)
                  intro wm ownm grm
                  have hm : MapOf w.heap.size (k + 1) (acc ++ [x]) wm := MapOf.put HIM.out HAT.out (by rw [HKK.out]; trivial) (by rw [HKK.out]; exact ownm)
                  obtain ⟨o1, o2, B⟩ := M.out.noted HP.out SH.out HS.out grm hm
                  have qx : SpAt wr.heap.size x wm := (grm.block _ (SpAt.lt QX.out) (fun e => by have := HWR.out; simp at e; omega)).trans QX.out
                  have tw : TwoAt g (cellA x) (cellI x) wm := (grm.block _ TW.out.row.1 (fun e => by have := HG.out; have := HWR.out; simp at e; omega)).trans TW.out
                  have hal := M.out.len
                  have HM := Lib.hid hm
                  have TW := Lib.hid tw
                  obtain ⟨d0, d1, d2, d3, d4, d5, d6, d7⟩ := qx.cell
                  have o1a := o1.alloc (boxX x)
                  have o2a := o2.alloc (boxX x)
                  have hba := B.alloc B.size (boxX x)
                  have TWA := Lib.hid (TW.out.later (box_latS (w := wm) (boxX x)))
                  have HMA := Lib.hid (HM.out.later (box_latS (w := wm) (boxX x)))
                  unfold boxX at o1a o2a hba TWA HMA
                  have HBA := Lib.hid hba
                  have hbs := hba.size
                  have O2 := Lib.hid o2a
                  have O1 := Lib.hid o1a
                  clear hm tw qx o1 o2 B ownm grm hrun hD hba o2a c00 c01 c02
                  go_wp2_with (at_builtin; refine wpList_append_lies _ rfl _ _ 27 rfl w.heap.size 23 i0 (.agg #[.int .i64 0, .int .i64 0, .int .i64 0, .string ⟨#[]⟩, .string ⟨#[]⟩, .int .i64 0, .int .i64 0, .string ⟨#[]⟩]) 8 88 Try.underlying27 hi hz0 hz1 hz2 rfl (by decide) _ acc.length (rowS acc) rfl o1a ⟨wm.heap.size, 0, none⟩ 1 1 (spRow x) rfl rfl (World.news_of_block (SpAt.boxed x wm)) (spRow_one x) (by decide) (by unfold maxLen; omega) (by omega) hbs _ rfl ?_)
                  intro g1 gc1 wa owna gra alta lta
                  have own2b := kept_c O1.out O2.out gra
                  have tw2 := two_kept TWA.out O1.out gra
                  have hm2 := HMA.out.grown gra (HMA.out.not_row O1.out)
                  have hbb := HBA.out.grown gra HBA.out.size (fun j hj => (O1.out.lt j hj).1)
                  have hbs2 := hbb.size
                  have OA := Lib.hid owna
                  have OB := Lib.hid own2b
                  have HM2 := Lib.hid hm2
                  have HBB := Lib.hid hbb
                  clear d0 d1 d2 d3 d4 d5 d6 d7 gra alta lta owna hm2 hbb o1a hbs
                  go_wp2_with (at_builtin; refine wpList_append_lies _ rfl _ _ 29 rfl w.heap.size 25 j0 (.agg #[.string ⟨#[]⟩, .int .i64 0, .string ⟨#[]⟩]) 3 40 Try.underlying29 gi gz0 gz1 gz2 rfl (by decide) _ (2 * acc.length) (rowOf (cellsOf acc)) rfl own2b ⟨g, 0, none⟩ 2 2 (rowOf [cellA x, cellI x]) rfl rfl (cells_news tw2) (rowOf_one _) (by decide) (by unfold maxLen; omega) (by omega) hbs2 _ rfl ?_)
                  intro g2 gc2 wb ownb grb altb ltb
                  have MM := Lib.hid (HMO.out _ _ _ HTK.out (kept_o OA.out OB.out grb) ownb (HM2.out.grown grb (HM2.out.not_row OB.out)) (HBB.out.grown grb HBB.out.size (fun j hj => (OB.out.lt j hj).1)))
                  clear own2b tw2 hbs2 ownb grb altb ltb
                  go_wp2_with fail
                  go_roundw
                  case rel => exact ⟨k + 1, acc ++ [x], by go_num, MM⟩
                  case measure => simp [intOf]; omega
                | false =>
                  rw [hdr] at cdr
                  have CDR := Lib.hid cdr
                  have ht : taken (lastOf S) now acc x = false := by rw [HFR.out, HKK.out, HLO.out]; exact hdr
                  have SK := Lib.hid ((((((HSK.out ht).later HBX.out).later HB1.out).later SKB.out).later HB3.out).later HCB.out)
                  clear ht
                  clear cdr hdr
                  go_wp2_with fail
                  refine (CDR.out _).mono ?_
                  rintro e w4 ⟨rfl, b4⟩
                  have SK := Lib.hid (SK.out.later b4)
                  clear b4 k0 k1 k2
                  go_wp2_with fail
                  go_roundw
                  case rel => exact ⟨k + 1, acc, by go_num, SK⟩
                  case measure => simp [intOf]; omega
            · have h1 := seenN_one hsn
              have ht : taken (lastOf S) now acc x = false := seen_yes (by rw [HKK.out]; exact hsn)
              have SK := Lib.hid ((((HSK.out ht).later HBX.out).later HB1.out).later SKB.out)
              rw [h1] at hc0
              subst hc0
              clear h1 ht hsn
              go_wp2_with fail
              go_roundw
              case rel => exact ⟨k + 1, acc, by go_num, SK⟩
              case measure => simp [intOf]; omega
    · obtain rfl : k = n := by omega
      have hacc : acc = takeR (lastOf S) now [] l := by
        have := M.out.acc'
        rw [List.take_of_length_le (by rw [HN.out]; exact Nat.le_refl _)] at this
        exact this
      have HA := Lib.hid hacc
      clear hacc
      go_wp2_with fail
      refine bodyPost_ret (v := .tuple #[u8, u9]) (by simp [results, Try.results19, go_sem]) rfl ⟨M.out.bel, u8, u9, rfl, ?_, ?_⟩
      · rw [← HA.out]
        exact M.out.own1
      · rw [← HA.out]
        exact M.out.own2
end Go.Proofs.Ytfkjdjdgcegniaa
