/- Open, the program's. -/
import Derived.Test.YtoglloafpnopaaaGreatTabP
import Derived.Deep.DeepCutAuto
set_option linter.unusedSimpArgs false
set_option linter.unusedVariables false
namespace Go.Proofs.YtoglloafpnopaaaGreat
set_option maxRecDepth 16000
open Go.RowKit Spoor
theorem suffix_mark (s : List UInt8) : Lib.hasSuffix s Spoor.mark = decide (s.drop (s.length - 5) = Spoor.mark) := by
 unfold Lib.hasSuffix
 by_cases h : Spoor.mark <:+ s
 · have h1 : Spoor.mark.isSuffixOf s = true := List.isSuffixOf_iff_suffix.2 h
   have h2 : s.drop (s.length - 5) = Spoor.mark := (List.suffix_iff_eq_drop.1 h).symm
   rw [h1, decide_eq_true h2]
 · have h1 : Spoor.mark.isSuffixOf s = false := by
    cases e : Spoor.mark.isSuffixOf s with
    | false => rfl
    | true => exact absurd (List.isSuffixOf_iff_suffix.1 e) h
   have h2 : ¬ s.drop (s.length - 5) = Spoor.mark := fun e => h (by rw [← e]; exact List.drop_suffix _ _)
   rw [h1, decide_eq_false h2]
def OpenEx (text : List UInt8) (w : World) (e : Ending) (w' : World) : Prop :=
 Below w.heap.size w w' ∧ ((openT text = none ∧ e = .returned (.tuple #[.pointer none, .int .i64 30])) ∨ ∃ gs t, openT text = some gs ∧ e = .returned (.tuple #[.pointer (some ⟨t, 0, none⟩), .int .i64 0]) ∧ TabAt t gs w')
def hdOk (text : List UInt8) : Bool :=
 gO (ofBig (text.drop (text.length - 25 + 4))) && gO (ofBig (text.drop (text.length - 25 + 12))) && decide (bN (ofBig (text.drop (text.length - 25 + 4))) ≤ text.length - 25) &&
  decide (sumB ((text.drop (bN (ofBig (text.drop (text.length - 25 + 4))))).take (text.length - 25 - bN (ofBig (text.drop (text.length - 25 + 4))))) = (text.drop (text.length - 25)).take 4)
def szT (text : List UInt8) : Nat := bN (ofBig (text.drop (text.length - 25 + 4)))
def mnT (text : List UInt8) : Nat := bN (ofBig (text.drop (text.length - 25 + 12)))
def ixT (text : List UInt8) : List UInt8 := (text.drop (szT text)).take (text.length - 25 - szT text)
def dtT (text : List UInt8) : List UInt8 := text.take (szT text)
def finT (text : List UInt8) : Option (List (List Ce) × Nat × Nat) → Option (List (List Ce))
 | none => none
 | some (gs, ia, da) => if ia = text.length - 25 - szT text ∧ da = szT text ∧ gs.flatten.length = mnT text ∧ mnT text ≤ 4096 then some gs else none
theorem openT_head {text : List UInt8} (h1 : ¬ text.length < 25) (h2 : text.drop (text.length - 5) = Spoor.mark) : openT text = if hdOk text = true then (if gO (get (ixT text)) = true then finT text (openL (dtT text) (ixT text) (gN (get (ixT text))) (gA 0 (get (ixT text))) 0 none) else none) else none := by
 unfold openT
 rw [if_neg (by simp [h1, h2])]
 cases e1 : ofBig (text.drop (text.length - 25 + 4)) with
 | none =>
   have hH : hdOk text = false := by unfold hdOk; rw [e1]; rfl
   rw [hH]
   rfl
 | some size =>
   cases e2 : ofBig (text.drop (text.length - 25 + 12)) with
   | none =>
     have hH : hdOk text = false := by unfold hdOk; rw [e1, e2]; rfl
     rw [hH]
     rfl
   | some many =>
     have hs : szT text = size := by unfold szT; rw [e1]; rfl
     have hm : mnT text = many := by unfold mnT; rw [e2]; rfl
     have hix : ixT text = (text.drop size).take (text.length - 25 - size) := by unfold ixT; rw [hs]
     have hdt : dtT text = text.take size := by unfold dtT; rw [hs]
     have hH0 : hdOk text = (decide (size ≤ text.length - 25) && decide (sumB ((text.drop size).take (text.length - 25 - size)) = (text.drop (text.length - 25)).take 4)) := by
      unfold hdOk
      rw [e1, e2]
      rfl
     dsimp only
     by_cases h3 : text.length - 25 < size
     · have hH : hdOk text = false := by rw [hH0, decide_eq_false (by omega)]; rfl
       rw [if_pos h3, hH]
       rfl
     · rw [if_neg h3]
       by_cases h4 : sumB ((text.drop size).take (text.length - 25 - size)) = (text.drop (text.length - 25)).take 4
       · have hH : hdOk text = true := by rw [hH0, decide_eq_true (by omega), decide_eq_true h4]; rfl
         rw [if_neg (by simp [h4]), hH, if_pos rfl, hix, hdt]
         cases e3 : get ((text.drop size).take (text.length - 25 - size)) with
         | none => rfl
         | some r =>
           obtain ⟨n, k⟩ := r
           have e0 : gA 0 (some (n, k)) = k := by simp [gA]
           have en : gN (some (n, k)) = n := rfl
           have eo : gO (some (n, k)) = true := rfl
           rw [e0, en, eo, if_pos rfl]
           dsimp only
           cases openL (text.take size) ((text.drop size).take (text.length - 25 - size)) n k 0 none with
           | none => rfl
           | some r =>
             obtain ⟨gs, ia, da⟩ := r
             unfold finT
             dsimp only
             rw [hs, hm]
       · have hH : hdOk text = false := by rw [hH0, decide_eq_false h4, Bool.and_false]
         rw [if_pos (by simp [h4]), hH]
         rfl
theorem decB_nil : decB [] = none := by kernel_rfl
theorem lastOr_app (m : List Ce) : ∀ (l : List Ce) (p : Option Ce), lastOr p (l ++ m) = lastOr (lastOr p l) m
 | [], _ => rfl
 | c :: l, p => lastOr_app m l (some c)
theorem lastOr_last {lg : List Ce} (h : lg ≠ []) : lastOr none lg = some (lg.getD (lg.length - 1) Ce.zero) := by
 obtain ⟨l0, c, rfl⟩ := (List.eq_nil_or_concat lg).resolve_left h
 rw [List.concat_eq_append, lastOr_app]
 simp [lastOr]
theorem OpSt.nolast {T0 Dl Ix base : Nat} {D I : List UInt8} {w0 : World} {ia da : Nat} {ib db : Bool} {acc : List (List Ce)} {vt : Value} {vs : List Value} {vl : Value} {lg : List Ce} {W : World} (h : OpSt T0 Dl Ix base D I w0 ia da ib db acc vt vs vl lg W) (hl : lg = []) : ∃ A cp, vl = .slice A 0 cp := by
 rcases h.ls with ⟨-, h⟩ | ⟨bl, -, cp, cu, h, -⟩
 · exact ⟨_, _, h⟩
 · rw [hl] at h
   exact ⟨_, _, h⟩
theorem OpSt.last {T0 Dl Ix base : Nat} {D I : List UInt8} {w0 : World} {ia da : Nat} {ib db : Bool} {acc : List (List Ce)} {vt : Value} {vs : List Value} {vl : Value} {lg : List Ce} {W : World} (h : OpSt T0 Dl Ix base D I w0 ia da ib db acc vt vs vl lg W) (hl : lg ≠ []) :
 ∃ bl kl cp c, vl = .slice (some ⟨bl, 0, none⟩) (kl + 1) cp ∧ kl + 1 ≤ cp ∧ cp ≤ 9223372036854775807 ∧ lastOr none lg = some c ∧ ∀ W', Below W.heap.size W W' → W'.cell? ⟨bl, kl * 3, none⟩ = some (.string ⟨c.k.toArray⟩) ∧ W'.cell? ⟨bl, kl * 3 + 1, none⟩ = some (.int .i64 c.q) ∧ W'.cell? ⟨bl, kl * 3 + 2, none⟩ = some (.string ⟨c.v.toArray⟩) := by
 rcases h.ls with ⟨h, -⟩ | ⟨bl, -, hP⟩
 · exact absurd h hl
 · obtain ⟨cp, cu, h1, h2, h3, -⟩ := id hP
   have hp := List.length_pos_iff.2 hl
   have h4 : lg.length - 1 + 1 = lg.length := by omega
   refine ⟨bl, lg.length - 1, cp, _, by rw [h4]; exact h1, by rw [h4]; exact h2, h3, lastOr_last hl, fun W' hb => ?_⟩
   have hc := (hP.row.2.later hb hP.row.1).cells (i := lg.length - 1) (by omega)
   simpa using hc
theorem OpSt.tab {T0 Dl Ix base : Nat} {D I : List UInt8} {w0 : World} {ia da : Nat} {ib db : Bool} {acc : List (List Ce)} {vt : Value} {vs : List Value} {vl : Value} {lg : List Ce} {W : World} (h : OpSt T0 Dl Ix base D I w0 ia da ib db acc vt vs vl lg W) : TabAt T0 acc W :=
 ⟨vt, h.tb, (BksAt.of h.own (Nat.le_refl _) h.sl).zero⟩
theorem PageAt.first {b m cap : Nat} {d : Ce} {g : List Ce} {W : World} (h : PageAt (.slice (some ⟨b, 0, none⟩) m cap) (d :: g) b W) : ∀ W', Below W.heap.size W W' → W'.cell? ⟨b, 0, none⟩ = some (.string ⟨d.k.toArray⟩) ∧ W'.cell? ⟨b, 1, none⟩ = some (.int .i64 d.q) ∧ W'.cell? ⟨b, 2, none⟩ = some (.string ⟨d.v.toArray⟩) := fun W' hb => by
 have hc := (h.row.2.later hb h.row.1).cells (i := 0) (by simp)
 simpa using hc
structure RoundOk (text D I : List UInt8) (n0 k0 : Nat) (o0 : Bool) (n ia da : Nat) (ib db : Bool) (acc : List (List Ce)) (lg : List Ce) : Prop where
 hi : ia ≤ I.length
 hd : da ≤ D.length
 ha : acc.length ≤ da
 hl : lg = [] ∨ 0 < acc.length
 hp : lastOr none acc.flatten = lastOr none lg
 ne : ∀ g ∈ acc, g ≠ []
 fit : ∀ c ∈ acc.flatten, c.q ≤ 9223372036854775807
 flat : acc.flatten.length ≤ da
 good : ib = false → db = false → o0 = true ∧ openL D I n0 k0 0 none = (openL D I n ia da (lastOr none acc.flatten)).map fun r => (acc ++ r.1, r.2)
 bad : ib = true ∨ db = true → openT text = none
 open' : openT text = if o0 = true then finT text (openL D I n0 k0 0 none) else none
theorem RoundOk.start {text D I : List UInt8} {n0 k0 : Nat} {o0 : Bool} (ho : openT text = if o0 = true then finT text (openL D I n0 k0 0 none) else none) (hk : k0 ≤ I.length) : RoundOk text D I n0 k0 o0 n0 k0 0 (!o0) false [] [] := by
 refine ⟨hk, Nat.zero_le _, Nat.le_refl _, .inl rfl, rfl, by simp, by simp, Nat.le_refl _, fun h _ => ?_, fun h => ?_, ho⟩
 · refine ⟨by simpa using h, ?_⟩
   show _ = (openL D I n0 k0 0 none).map _
   cases openL D I n0 k0 0 none <;> rfl
 · rw [ho]
   have : o0 = false := by simpa using h
   rw [this]
   rfl
theorem RoundOk.stop {text D I : List UInt8} {n0 k0 : Nat} {o0 : Bool} {n ia da : Nat} {acc : List (List Ce)} {lg : List Ce} (h : RoundOk text D I n0 k0 o0 (n + 1) ia da false false acc lg) (hb : ∀ g, ¬ StepOk D I n ia da (lastOr none acc.flatten) g) : openT text = none := by
 obtain ⟨h1, h2⟩ := h.good rfl rfl
 rw [h.open', h1, h2, openL_bad hb]
 rfl
theorem RoundOk.next {text D I : List UInt8} {n0 k0 : Nat} {o0 : Bool} {n ia da : Nat} {acc : List (List Ce)} {lg g : List Ce} (h : RoundOk text D I n0 k0 o0 (n + 1) ia da false false acc lg) (hok : tkOk da false D (rNum I ia) = true)
 (hdec : decB (tkS da D (rNum I ia)) = some g) (hne : g ≠ []) (hk : keyG g = rKey I ia) (hf : n = 0 ∨ g.length = 4) (hm : g.length ≤ 4) (hs : sortedFrom (lastOr none acc.flatten) g = true) :
 RoundOk text D I n0 k0 o0 n (rNext I ia) (da + rNum I ia + 4) (rBad I ia) (!tkSum da D (rNum I ia)) (acc ++ [g]) g := by
 have hfl : (acc ++ [g]).flatten = acc.flatten ++ g := by simp
 have hlast : lastOr none (acc.flatten ++ g) = lastOr (lastOr none acc.flatten) g := lastOr_app g acc.flatten none
 have hok' := hok
 unfold tkOk at hok'
 simp only [Bool.not_false, Bool.true_and, decide_eq_true_eq] at hok'
 have key : (∀ g', StepOk D I n ia da (lastOr none acc.flatten) g' → False) → openT text = none := fun hh => h.stop fun g' hg => hh g' hg
 refine ⟨rNext_le, by omega, by have := h.ha; simp; omega, .inr (by simp), ?_, ?_, ?_, ?_, fun h1 h2 => ?_, fun hb => ?_, h.open'⟩
 · rw [hfl, hlast]
   exact lastOr_cons _ hne _
 · intro x hx
   rcases List.mem_append.1 hx with hx | hx
   · exact h.ne x hx
   · rw [List.mem_singleton] at hx
     rw [hx]
     exact hne
 · intro c hc
   rw [hfl, List.mem_append] at hc
   rcases hc with hc | hc
   · exact h.fit c hc
   · exact (decB_fits hdec).2 c hc
 · rw [hfl, List.length_append]
   have := h.flat
   omega
 · obtain ⟨g1, g2⟩ := h.good rfl rfl
   refine ⟨g1, ?_⟩
   have st : StepOk D I n ia da (lastOr none acc.flatten) g := ⟨h1, hok, by simpa using h2, hdec, hne, hk, hf, hm, hs⟩
   rw [g2, openL_good st, hfl, hlast]
   cases openL D I n (rNext I ia) (da + rNum I ia + 4) (lastOr (lastOr none acc.flatten) g) with
   | none => rfl
   | some r => simp
 · refine key fun g' hg => ?_
   rcases hb with hb | hb
   · rw [hg.bad] at hb; cases hb
   · rw [hg.sum] at hb; cases hb
theorem RoundOk.fin {text D I : List UInt8} {n0 k0 : Nat} {o0 : Bool} {n ia da : Nat} {ib db : Bool} {acc : List (List Ce)} {lg : List Ce} (h : RoundOk text D I n0 k0 o0 n ia da ib db acc lg) (hc : (decide (0 < n) && !ib && !db) = false)
 (hI : I.length = text.length - 25 - szT text) (hD : D.length = szT text) :
 openT text = if (!ib && !db && decide (¬ ia < I.length) && decide (¬ da < D.length) && decide (acc.flatten.length = mnT text) && decide (mnT text ≤ 4096)) = true then some acc else none := by
 cases ib with
 | true => rw [h.bad (.inl rfl)]; rfl
 | false =>
   cases db with
   | true => rw [h.bad (.inr rfl)]; rfl
   | false =>
     obtain rfl : n = 0 := by simpa using hc
     obtain ⟨g1, g2⟩ := h.good rfl rfl
     rw [h.open', g1, g2]
     have e : (openL D I 0 ia da (lastOr none acc.flatten)).map (fun r => (acc ++ r.1, r.2)) = some (acc, ia, da) := by simp [openL]
     rw [if_pos rfl, e]
     unfold finT
     dsimp only
     have h1 := h.hi
     have h2 := h.hd
     by_cases hh : ia = text.length - 25 - szT text ∧ da = szT text ∧ acc.flatten.length = mnT text ∧ mnT text ≤ 4096
     · rw [if_pos hh, if_pos]
       obtain ⟨a1, a2, a3, a4⟩ := hh
       simp only [Bool.not_false, Bool.true_and, Bool.and_eq_true, decide_eq_true_eq]
       exact ⟨⟨⟨by omega, by omega⟩, a3⟩, a4⟩
     · rw [if_neg hh, if_neg]
       intro h5
       simp only [Bool.not_false, Bool.true_and, Bool.and_eq_true, decide_eq_true_eq] at h5
       exact hh ⟨by omega, by omega, h5.1.2, h5.2⟩
end Go.Proofs.YtoglloafpnopaaaGreat
