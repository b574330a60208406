/- Cut, Join, and what the laws lay. A memory, and cells that lie in boxes beside it; does. The walk of MemoryParts. -/
import Derived.Test.YtoglloafpnopaaaGreatTabG
import Derived.Test.YtoglloafpnopaaaGreatTV
import Derived.Test.YtoglloafpnopaaaGreatMK
import Derived.Deep.RegionWith
import Derived.Deep.DeepCutAuto
set_option linter.unusedSimpArgs false
set_option linter.unusedVariables false
namespace Go.Proofs.YtoglloafpnopaaaGreat
set_option maxRecDepth 16000
open Go.RowKit Spoor
set_option maxHeartbeats 4000000 in
theorem cutM_any (p : Nat) (L : List Ce) (fs : List Nat) (key : List UInt8) (w : World) (M : Mem p L fs w) (hbig : L.length ≤ 100000) :
 Calls Tryz.prog 21 #[.pointer (some ⟨p, 0, none⟩), .string ⟨key.toArray⟩] w fun e w' => ∃ pa fa pb fb, e = .returned (.tuple #[.pointer (some ⟨pa, 0, none⟩), .pointer (some ⟨pb, 0, none⟩)]) ∧
  Mem pa (lowC L key) fa w' ∧ Mem pb (highC L key) fb w' ∧ (∀ x ∈ fa, w.heap.size ≤ x) ∧ (∀ x ∈ fb, w.heap.size ≤ x) ∧ (∀ x ∈ fa, x ∉ fb) ∧ Below w.heap.size w w' := by
 obtain ⟨hr, hm⟩ := M.rise
 have ofc := fun (L' : List Ce) (v : Value) (base : Nat) (W : World) (hsub : L'.Sublist L) (h : W.ownsRow base 38 3 v L'.length (rowOf L')) =>
  of_any v L' W (slAt_own h) (hr.sublist hsub) (fun c hc => hm c (hsub.subset hc)) (Nat.le_trans hsub.length_le hbig)
 have OF := Lib.hid ofc
 have RA := Lib.hid (fun W (h : Below w.heap.size w W) (x y : List UInt8) => rangeM_any p L fs x y W (M.later h) hbig)
 clear ofc M hr hm hbig
 by_cases hk : key = []
 · subst hk
   go_enter Tryz.func21, Tryz.ntmps21
   go_wp2_with fail
   refine (newM_any _).mono ?_
   rintro e w1 ⟨rfl, M1, b1⟩
   have HM1 := Lib.hid M1
   clear M1
   go_wp2_with fail
   refine (RA.out w1 b1 [] []).mono ?_
   rintro e w2 ⟨b2, v, rfl, own⟩
   rw [rangeC_all] at own
   obtain ⟨A, cap, rfl⟩ := own_slice own
   have cf := OF.out L _ _ w2 (List.Sublist.refl _) own
   have CF := Lib.hid cf
   have B2 := btP b1 b2
   have HM2 := Lib.hid (HM1.out.later b2)
   clear cf own
   go_wp2_with fail
   refine CF.out.mono ?_
   rintro e w3 ⟨pb, fb, rfl, M3, h3, b3⟩
   have HF := Lib.hid (And.intro M3 h3)
   go_wp2_with fail
   go_ret2
   have lt1 := HM1.out.lt
   refine ⟨w.heap.size, [w.heap.size], pb, fb, rfl, ?_, ?_, ?_, ?_, ?_, btP B2 b3⟩
   · rw [lowC_nil]
     exact HM2.out.later b3
   · rw [highC_nil]
     exact HF.out.1
   · simp
   · intro x hx
     have := HF.out.2 x hx
     have := B2.size
     omega
   · intro x hx hx2
     have h4 := HF.out.2 x hx2
     have h5 := lt1 x hx
     have := b2.size
     omega
 · have e1 : (key == ([] : List UInt8)) = false := by simpa using hk
   have HK := Lib.hid hk
   clear hk
   go_enter Tryz.func21, Tryz.ntmps21
   go_wp2_with fail
   refine (RA.out _ (Below.refl _ _) [] key).mono ?_
   rintro e w1 ⟨b1, v, rfl, own⟩
   rw [rangeC_low HK.out] at own
   obtain ⟨A, cap, rfl⟩ := own_slice own
   have cf := OF.out _ _ _ w1 List.filter_sublist own
   have CF := Lib.hid cf
   clear cf own
   go_wp2_with fail
   refine CF.out.mono ?_
   rintro e w2 ⟨pa, fa, rfl, M2, h2, b2⟩
   have HA := Lib.hid (And.intro M2 h2)
   have B2 := btP b1 b2
   clear M2 h2 CF
   go_wp2_with fail
   refine (RA.out _ B2 key []).mono ?_
   rintro e w3 ⟨b3, v, rfl, own⟩
   rw [rangeC_high] at own
   obtain ⟨A, cap, rfl⟩ := own_slice own
   have cf := OF.out _ _ _ w3 List.filter_sublist own
   have CF := Lib.hid cf
   clear cf own
   go_wp2_with fail
   refine CF.out.mono ?_
   rintro e w4 ⟨pb, fb, rfl, M4, h4, b4⟩
   have HB := Lib.hid (And.intro M4 h4)
   clear M4 h4 CF
   go_wp2_with fail
   go_ret2
   have lt2 := HA.out.1.lt
   have s1 := b1.size
   have s2 := b2.size
   have s3 := b3.size
   refine ⟨pa, fa, pb, fb, rfl, HA.out.1.later (btP b3 b4), HB.out.1, fun x hx => ?_, fun x hx => ?_, fun x hx hx2 => ?_, btP B2 (btP b3 b4)⟩
   · have := HA.out.2 x hx
     omega
   · have := HB.out.2 x hx
     omega
   · have := HB.out.2 x hx2
     have := lt2 x hx
     omega
theorem puts_take {La Lb : List Ce} {k : Nat} (hk : k < Lb.length) : putsC La (Lb.take (k + 1)) = putC (putsC La (Lb.take k)) (Lb.getD k Ce.zero) := by
 rw [List.take_succ_eq_append_getElem hk, putsC_snoc]
 simp [List.getD, hk]
theorem puts_short (La Lb : List Ce) (k : Nat) : (putsC La (Lb.take k)).length ≤ La.length + Lb.length := by
 have h1 := puts_length (Lb.take k) La
 have h2 : (Lb.take k).length ≤ Lb.length := (List.take_sublist k Lb).length_le
 omega
theorem new_sl (l : List Ce) (W : World) (hb : l.length ≤ 100000) : SlAt (.slice (some ⟨W.heap.size, 0, none⟩) l.length l.length) l (W.alloc (.cells (rowOf l).toArray 38)) := by
 have hl := rowOf_length l
 exact slAt_own (base := W.heap.size) ⟨hl, .inr ⟨W.heap.size, l.length, (rowOf l).toArray, rfl, Nat.le_refl _, heap_alloc_new W _, Nat.le_refl _, by unfold maxLen; omega, by simpa using hl, by
  rw [List.toList_toArray]
  exact List.take_of_length_le (by omega)⟩⟩
def St (lo p : Nat) (L : List Ce) (bs : List (Nat × Ce)) (W : World) : Prop :=
 ∃ fs, Mem p L fs W ∧ (∀ x ∈ fs, lo ≤ x) ∧ ∀ y ∈ bs, CeAt y.1 y.2 W ∧ y.1 ∉ fs
theorem St.new {lo p : Nat} {fs : List Nat} {L : List Ce} {W : World} (M : Mem p L fs W) (h : ∀ x ∈ fs, lo ≤ x) : St lo p L [] W := ⟨fs, M, h, by simp⟩
theorem St.later {lo p : Nat} {L : List Ce} {bs : List (Nat × Ce)} {W W' : World} (h : St lo p L bs W) (hb : Below W.heap.size W W') : St lo p L bs W' := by
 obtain ⟨fs, M, h1, h2⟩ := h
 exact ⟨fs, M.later hb, h1, fun y hy => ⟨(h2 y hy).1.later hb (h2 y hy).1.lt, (h2 y hy).2⟩⟩
theorem St.cell {lo p : Nat} {L : List Ce} {bs : List (Nat × Ce)} {W : World} (h : St lo p L bs W) {b : Nat} {c : Ce} (hy : (b, c) ∈ bs) : CeAt b c W := by
 obtain ⟨fs, M, h1, h2⟩ := h
 exact (h2 _ hy).1
theorem St.put {lo p : Nat} {L : List Ce} {bs : List (Nat × Ce)} {W : World} (h : St lo p L bs W) (hlo : lo ≤ W.heap.size) (c : Ce) (hbig : L.length ≤ 900) (hf : FitsC c) :
 Calls Tryz.prog 60 #[.pointer (some ⟨p, 0, none⟩), ceVal c] W fun e W' => e = .returned (.int .i64 (if c.may then 0 else 2)) ∧ St lo p (putC L c) bs W' ∧ Below lo W W' := by
 obtain ⟨fs, M, h1, h2⟩ := h
 refine (putM_any p L fs c W M hbig hf).mono ?_
 rintro e W' ⟨rfl, fs', M', h3, f⟩
 refine ⟨rfl, ⟨fs', M', fun x hx => ?_, fun y hy => ?_⟩, f.below hlo h1⟩
 · rcases h3 x hx with h | h
   · exact h1 x h
   · omega
 · have h4 := h2 y hy
   refine ⟨?_, fun hm => ?_⟩
   · have h5 := h4.1
     unfold CeAt at *
     rw [f.block y.1 (Go.ltA h5) h4.2]
     exact h5
   · rcases h3 _ hm with h | h
     · exact h4.2 h
     · have := h4.1.lt
       omega
theorem St.range {lo p : Nat} {L : List Ce} {bs : List (Nat × Ce)} {W : World} (h : St lo p L bs W) (hbig : L.length ≤ 100000) (x y : List UInt8) :
 Calls Tryz.prog 49 #[.pointer (some ⟨p, 0, none⟩), .string ⟨x.toArray⟩, .string ⟨y.toArray⟩] W fun e W' => Below W.heap.size W W' ∧ ∃ v, e = .returned v ∧ W'.ownsRow W.heap.size 38 3 v (rangeC L x y).length (rowOf (rangeC L x y)) := by
 obtain ⟨fs, M, -⟩ := h
 exact rangeM_any p L fs x y W M hbig
theorem St.len {lo p : Nat} {L : List Ce} {bs : List (Nat × Ce)} {W : World} (h : St lo p L bs W) (hbig : L.length ≤ 100000) :
 Calls Tryz.prog 170 #[.pointer (some ⟨p, 0, none⟩)] W fun e W' => e = .returned (.int .i64 L.length) ∧ Below W.heap.size W W' := by
 obtain ⟨fs, M, -⟩ := h
 exact lenM_any p L fs W M hbig
theorem St.get {lo p : Nat} {L : List Ce} {bs : List (Nat × Ce)} {W : World} (h : St lo p L bs W) (hbig : L.length ≤ 100000) (key : List UInt8) (hk : key.length ≤ 140737488351232) :
 Calls Tryz.prog 53 #[.pointer (some ⟨p, 0, none⟩), .string ⟨key.toArray⟩] W fun e W' => e = .returned (ceV (findC L key)) ∧ Below W.heap.size W W' := by
 obtain ⟨fs, M, -⟩ := h
 exact getM_any p L fs key W M hbig hk
theorem St.cut {lo p : Nat} {L : List Ce} {bs : List (Nat × Ce)} {W : World} (h : St lo p L bs W) (hlo : lo ≤ W.heap.size) (hbig : L.length ≤ 100000) (key : List UInt8) :
 Calls Tryz.prog 21 #[.pointer (some ⟨p, 0, none⟩), .string ⟨key.toArray⟩] W fun e W' => ∃ pa pb, e = .returned (.tuple #[.pointer (some ⟨pa, 0, none⟩), .pointer (some ⟨pb, 0, none⟩)]) ∧
  St lo pa (lowC L key) bs W' ∧ St lo pb (highC L key) bs W' ∧ St lo p L bs W' ∧ Below W.heap.size W W' := by
 have h0 := h
 obtain ⟨fs, M, h1, h2⟩ := h
 refine (cutM_any p L fs key W M hbig).mono ?_
 rintro e W' ⟨pa, fa, pb, fb, rfl, MA, MB, h3, h4, h5, hb⟩
 refine ⟨pa, pb, rfl, ⟨fa, MA, fun x hx => Nat.le_trans hlo (h3 x hx), fun y hy => ⟨(h2 y hy).1.later hb (h2 y hy).1.lt, fun hm => ?_⟩⟩, ⟨fb, MB, fun x hx => Nat.le_trans hlo (h4 x hx), fun y hy => ⟨(h2 y hy).1.later hb (h2 y hy).1.lt, fun hm => ?_⟩⟩, h0.later hb, hb⟩
 · have := h3 _ hm
   have := (h2 y hy).1.lt
   omega
 · have := h4 _ hm
   have := (h2 y hy).1.lt
   omega
theorem mem_putsC {x : Ce} : ∀ {l acc : List Ce}, x ∈ putsC acc l → x ∈ acc ∨ x ∈ l
 | [], acc, h => .inl h
 | c :: l, acc, h => by
   rcases mem_putsC (l := l) (acc := putC acc c) h with h | h
   · rcases putC_mem h with ⟨rfl, _⟩ | h
     · exact .inr (by simp)
     · exact .inl h
   · exact .inr (by simp [h])
theorem fits_puts {l acc : List Ce} (ha : ∀ c ∈ acc, FitsC c) (hl : ∀ c ∈ l, FitsC c) : ∀ c ∈ putsC acc l, FitsC c := fun c hc => by
 rcases mem_putsC hc with h | h
 · exact ha c h
 · exact hl c h
def PartsAt (w : World) (p pa pb : Nat) (va vx vy : Value) (M X Y : List Ce) (W : World) : Prop :=
 (St w.heap.size p M [] W ∧ St w.heap.size pa X [] W ∧ St w.heap.size pb Y [] W) ∧ (SlAt va M W ∧ SlAt vx X W ∧ SlAt vy Y W) ∧ Below w.heap.size w W
theorem PartsAt.later {w : World} {p pa pb : Nat} {va vx vy : Value} {M X Y : List Ce} {W W' : World} (h : PartsAt w p pa pb va vx vy M X Y W) (hb : Below W.heap.size W W') : PartsAt w p pa pb va vx vy M X Y W' :=
 ⟨⟨h.1.1.later hb, h.1.2.1.later hb, h.1.2.2.later hb⟩, ⟨h.2.1.1.later hb, h.2.1.2.1.later hb, h.2.1.2.2.later hb⟩, btP h.2.2 hb⟩
theorem SlAt.val {v : Value} {l : List Ce} {w : World} (h : SlAt v l w) : ∃ A cap, v = .slice A l.length cap ∧ l.length ≤ cap ∧ cap ≤ 9223372036854775807 ∧ (0 < l.length → ∃ b o, A = some ⟨b, o, none⟩ ∧ RowAt b o l w) := by
 obtain ⟨A, cap, h1, h2, h3, h4⟩ := h
 exact ⟨A, cap, h1, h2, by unfold maxLen at h3; omega, h4⟩
end Go.Proofs.YtoglloafpnopaaaGreat
