/- Put of a memory. -/
import Derived.Test.YtoglloafpnopaaaGreatMemH
set_option linter.unusedSimpArgs false
set_option linter.unusedVariables false
namespace Spoor
open Go Go.Proofs.YtoglloafpnopaaaGreat
def pagePos (gs : List (List Ce)) (c : Ce) : Nat := (gs.takeWhile fun g => !aheadC c (g.headD Ce.zero)).length
theorem takeWhile_facts {α : Type} (d : α) (p : α → Bool) : ∀ (l : List α), (∀ i, i < (l.takeWhile p).length → p (l.getD i d) = true) ∧ ((l.takeWhile p).length < l.length → p (l.getD (l.takeWhile p).length d) = false)
 | [] => ⟨fun i hi => by simp at hi, fun h => by simp at h⟩
 | x :: l => by
   have ih := takeWhile_facts d p l
   cases e : p x with
   | false => rw [List.takeWhile_cons, e]; exact ⟨fun i hi => by simp at hi, fun _ => e⟩
   | true =>
     rw [List.takeWhile_cons, e]
     simp only [if_true, List.length_cons]
     refine ⟨fun i hi => ?_, fun h => ?_⟩
     · cases i with
       | zero => exact e
       | succ i => exact ih.1 i (by omega)
     · exact ih.2 (by omega)
theorem head_rise {gs : List (List Ce)} (ok : PagesOk gs) {i j : Nat} (h : i < j) (hj : j < gs.length) : aheadC ((gs.getD i []).headD Ce.zero) ((gs.getD j []).headD Ce.zero) = true := by
 have hr := ok.rise
 rw [flat_split (show i < gs.length by omega), rise_app] at hr
 have hr2 := (rise_app.1 hr.2.1).2.2
 refine hr2 _ (head_mem (ok.some _ (getD_page (by omega))).1) _ ?_
 rw [List.mem_flatten]
 refine ⟨gs.getD j [], ?_, head_mem (ok.some _ (getD_page hj)).1⟩
 have : gs.getD j [] = (gs.drop (i + 1))[j - (i + 1)]'(by rw [List.length_drop]; omega) := by
  rw [List.getElem_drop]
  simp [List.getD, hj, show i + 1 + (j - (i + 1)) = j by omega]
 rw [this]
 exact List.getElem_mem _
theorem pagePos_facts {gs : List (List Ce)} (ok : PagesOk gs) (c : Ce) : pagePos gs c ≤ gs.length ∧ (∀ i, i < pagePos gs c → aheadC c ((gs.getD i []).headD Ce.zero) = false) ∧ ∀ i, pagePos gs c ≤ i → i < gs.length → aheadC c ((gs.getD i []).headD Ce.zero) = true := by
 have f := takeWhile_facts ([] : List Ce) (fun g => !aheadC c (g.headD Ce.zero)) gs
 refine ⟨(List.takeWhile_sublist _).length_le, fun i hi => by have := f.1 i hi; simpa using this, fun i h1 h2 => ?_⟩
 have h0 := f.2 (show (gs.takeWhile _).length < gs.length from Nat.lt_of_le_of_lt h1 h2)
 simp only [Bool.not_eq_false'] at h0
 rcases Nat.lt_or_ge (pagePos gs c) i with h | h
 · exact ahead_trans h0 (head_rise ok h h2)
 · have : i = pagePos gs c := Nat.le_antisymm h h1
   rw [this]; exact h0
def cellPos (l : List Ce) (c : Ce) : Nat := (l.takeWhile fun x => aheadC x c).length
theorem cellPos_facts {l : List Ce} (hr : Rise l) (c : Ce) : cellPos l c ≤ l.length ∧ (∀ i, i < cellPos l c → aheadC (l.getD i Ce.zero) c = true) ∧ ∀ i, cellPos l c ≤ i → i < l.length → aheadC (l.getD i Ce.zero) c = false := by
 have f := takeWhile_facts Ce.zero (fun x => aheadC x c) l
 refine ⟨(List.takeWhile_sublist _).length_le, fun i hi => f.1 i hi, fun i h1 h2 => ?_⟩
 have h0 := f.2 (show (l.takeWhile _).length < l.length from Nat.lt_of_le_of_lt h1 h2)
 rcases Nat.lt_or_ge (cellPos l c) i with h | h
 · cases e : aheadC (l.getD i Ce.zero) c with
   | false => rfl
   | true =>
     have hp : aheadC (l.getD (cellPos l c) Ce.zero) (l.getD i Ce.zero) = true := by
      have := (List.pairwise_iff_getElem.1 hr) (cellPos l c) i (by omega) h2 h
      simpa [List.getD, h2, show cellPos l c < l.length by omega] using this
     have := ahead_trans hp e
     rw [show aheadC (l.getD (cellPos l c) Ce.zero) c = false from h0] at this
     cases this
 · have : i = cellPos l c := Nat.le_antisymm h h1
   rw [this]; exact h0
end Spoor
namespace Go.Proofs.YtoglloafpnopaaaGreat
set_option maxRecDepth 16000
open Go.RowKit Spoor
theorem cmpT_neg (a b : List UInt8) : decide (cmpT a b < 0) = Op.bytesLess a b := by
 unfold cmpT
 cases Op.bytesLess a b <;> cases Op.bytesLess b a <;> rfl
theorem cmpT_pos (a b : List UInt8) : decide (0 < cmpT a b) = Op.bytesLess b a := by
 unfold cmpT
 cases h : Op.bytesLess a b with
 | true => rw [bl_asymm h]; rfl
 | false => cases Op.bytesLess b a <;> rfl
theorem cmpT_zero (a b : List UInt8) : cmpT a b = 0 ↔ a = b := by
 constructor
 · intro h
   have h1 := cmpT_neg a b
   have h2 := cmpT_pos a b
   rw [h] at h1 h2
   exact bl_total (by simpa using h1.symm) (by simpa using h2.symm)
 · rintro rfl; unfold cmpT; rw [bl_irrefl]; rfl
theorem cmpCe_neg (a b : Ce) : decide (cmpCe a b < 0) = aheadC a b := by
 have := cmpCe_less a b
 cases h : aheadC a b with
 | true => rw [h] at this; simp at this; simp; omega
 | false => rw [h] at this; simp at this; simp; omega
theorem cmpInt (p q : Int) : (0 < Lib.compareInt p q ↔ q < p) ∧ (Lib.compareInt p q = 0 ↔ p = q) ∧ (Lib.compareInt p q < 0 ↔ p < q) := by
 unfold Lib.compareInt
 rcases Int.lt_trichotomy p q with h | h | h
 · simp [h]; omega
 · subst h; simp
 · simp [h, show ¬ p < q by omega]; omega
theorem cmpCe_pos (a b : Ce) : decide (0 < cmpCe a b) = aheadC b a := by
 unfold cmpCe aheadC
 by_cases h0 : cmpT a.k b.k = 0
 · rw [if_pos h0]
   have hk := (cmpT_zero _ _).1 h0
   rw [hk, bl_irrefl]
   have := (cmpInt b.q a.q).1
   simp [this]
 · rw [if_neg h0, cmpT_pos]
   have hk : ¬ (b.k = a.k) := fun e => h0 ((cmpT_zero _ _).2 e.symm)
   simp [hk]
theorem cmpCe_zero (a b : Ce) : decide (cmpCe a b = 0) = sameC a b := by
 unfold cmpCe sameC
 by_cases h0 : cmpT a.k b.k = 0
 · rw [if_pos h0]
   have hk := (cmpT_zero _ _).1 h0
   have := (cmpInt b.q a.q).2.1
   simp [this, hk, eq_comm]
 · rw [if_neg h0]
   have hk : ¬ (a.k = b.k) := fun e => h0 ((cmpT_zero _ _).2 e)
   simp [hk, h0]
def PList : List Value → List (List Ce) → List Nat → World → Prop
 | [], [], [], _ => True
 | v :: vs, g :: gs, b :: bs, w => PageAt v g b w ∧ PList vs gs bs w
 | _, _, _, _ => False
theorem PList.len : ∀ {vs : List Value} {gs : List (List Ce)} {bs : List Nat} {w : World}, PList vs gs bs w → vs.length = gs.length ∧ bs.length = gs.length
 | [], [], [], _, _ => ⟨rfl, rfl⟩
 | _ :: _, _ :: _, _ :: _, _, h => by have := PList.len h.2; simp [this]
theorem PList.app : ∀ {vs vs' : List Value} {gs gs' : List (List Ce)} {bs bs' : List Nat} {w : World}, PList vs gs bs w → PList vs' gs' bs' w → PList (vs ++ vs') (gs ++ gs') (bs ++ bs') w
 | [], _, [], _, [], _, _, _, k => k
 | _ :: _, _, _ :: _, _, _ :: _, _, _, h, k => ⟨h.1, PList.app h.2 k⟩
theorem PList.cut : ∀ {vs : List Value} {gs : List (List Ce)} {bs : List Nat} {w : World} (k : Nat), PList vs gs bs w → PList (vs.take k) (gs.take k) (bs.take k) w ∧ PList (vs.drop k) (gs.drop k) (bs.drop k) w
 | [], [], [], _, k, _ => by simp [PList]
 | _ :: _, _ :: _, _ :: _, _, 0, h => by simpa [PList] using h
 | _ :: _, _ :: _, _ :: _, _, k + 1, h => by
   have := PList.cut k h.2
   exact ⟨⟨h.1, this.1⟩, this.2⟩
theorem PList.at : ∀ {vs : List Value} {gs : List (List Ce)} {bs : List Nat} {w : World}, PList vs gs bs w → ∀ i, i < gs.length → ∃ v, vs[i]? = some v ∧ PageAt v (gs.getD i []) (bs.getD i 0) w
 | [], [], [], _, _, i, hi => absurd hi (by simp)
 | _ :: _, _ :: _, _ :: _, _, h, 0, _ => ⟨_, rfl, h.1⟩
 | _ :: _, _ :: _, _ :: _, _, h, i + 1, hi => by
   have := PList.at h.2 i (by simpa using hi)
   simpa using this
theorem PList.of : ∀ {gs : List (List Ce)} {vs : List Value} {bs : List Nat} {w : World}, vs.length = gs.length → bs.length = gs.length → (∀ i, i < gs.length → ∃ v, vs[i]? = some v ∧ PageAt v (gs.getD i []) (bs.getD i 0) w) → PList vs gs bs w
 | [], [], [], _, _, _, _ => trivial
 | [], _ :: _, _, _, h, _, _ => by simp at h
 | [], _, _ :: _, _, _, h, _ => by simp at h
 | _ :: _, [], _, _, h, _, _ => by simp at h
 | _ :: _, _, [], _, _, h, _ => by simp at h
 | g :: gs, v :: vs, b :: bs, w, h1, h2, h => by
   refine ⟨?_, PList.of (by simpa using h1) (by simpa using h2) fun i hi => ?_⟩
   · obtain ⟨v', h3, h4⟩ := h 0 (by simp)
     simp at h3
     subst h3
     simpa using h4
   · have := h (i + 1) (by simpa using hi)
     simpa using this
theorem PList.same : ∀ {vs : List Value} {gs : List (List Ce)} {bs : List Nat} {w w' : World}, PList vs gs bs w → (∀ b ∈ bs, w'.heap[b]? = w.heap[b]?) → PList vs gs bs w'
 | [], [], [], _, _, _, _ => trivial
 | _ :: _, _ :: _, b :: bs, _, _, h, k => ⟨h.1.same (k b (by simp)), PList.same h.2 fun x hx => k x (by simp [hx])⟩
theorem PList.one : ∀ {vs : List Value} {gs : List (List Ce)} {bs : List Nat} {w : World}, PList vs gs bs w → ∀ u ∈ vs, u.oneCell' = true
 | [], [], [], _, _, u, hu => by cases hu
 | _ :: _, _ :: _, _ :: _, _, h, u, hu => by
   rcases List.mem_cons.1 hu with rfl | hu
   · obtain ⟨cap, cur, rfl, _⟩ := h.1
     rfl
   · exact PList.one h.2 u hu
theorem PList.lt : ∀ {vs : List Value} {gs : List (List Ce)} {bs : List Nat} {w : World}, PList vs gs bs w → ∀ b ∈ bs, b < w.heap.size
 | [], [], [], _, _, u, hu => by cases hu
 | _ :: _, _ :: _, _ :: _, _, h, u, hu => by
   rcases List.mem_cons.1 hu with rfl | hu
   · exact h.1.lt
   · exact PList.lt h.2 u hu
theorem PagesAt.open {v : Value} {gs : List (List Ce)} {fs : List Nat} {w : World} (h : PagesAt v gs fs w) (h0 : 0 < gs.length) : ∃ g cap cur bs, v = .slice (some ⟨g, 0, none⟩) gs.length cap ∧ gs.length ≤ cap ∧ cap ≤ maxLen ∧ w.heap[g]? = some (.cells cur 134 (0, 0)) ∧ cur.size = cap ∧ fs = g :: bs ∧ bs.Nodup ∧ PList (cur.toList.take gs.length) gs bs w := by
 rcases h with ⟨_, rfl, _⟩ | ⟨g, cap, cur, bs, h1, _, h2, h3, h4, h5, h6, h7, h8, h9⟩
 · simp at h0
 · refine ⟨g, cap, cur, bs, h1, h2, h3, h4, h5, h6, h8, PList.of (by rw [List.length_take]; have : cur.toList.length = cur.size := Array.length_toList; omega) h7 fun i hi => ?_⟩
   obtain ⟨u, h10, h11⟩ := h9 i hi
   exact ⟨u, by rw [List.getElem?_take, if_pos hi, Array.getElem?_toList]; exact h10, h11⟩
theorem PagesAt.shut {gs : List (List Ce)} {g cap : Nat} {cur : Array Value} {bs : List Nat} {w : World} (h0 : 0 < gs.length) (h2 : gs.length ≤ cap) (h3 : cap ≤ maxLen) (h4 : w.heap[g]? = some (.cells cur 134 (0, 0))) (h5 : cur.size = cap) (h8 : bs.Nodup) (h9 : PList (cur.toList.take gs.length) gs bs w) : PagesAt (.slice (some ⟨g, 0, none⟩) gs.length cap) gs (g :: bs) w := by
 refine .inr ⟨g, cap, cur, bs, rfl, h0, h2, h3, h4, h5, rfl, h9.len.2, h8, fun i hi => ?_⟩
 obtain ⟨u, h10, h11⟩ := h9.at i hi
 rw [List.getElem?_take, if_pos hi, Array.getElem?_toList] at h10
 exact ⟨u, h10, h11⟩
theorem nodup_put {bs : List Nat} {k b' : Nat} (h : bs.Nodup) (hk : k < bs.length) (hb : b' = bs.getD k 0 ∨ b' ∉ bs) : (bs.take k ++ b' :: bs.drop (k + 1)).Nodup := by
 have e : bs = bs.take k ++ bs.getD k 0 :: bs.drop (k + 1) := by
  conv => lhs; rw [← List.take_append_drop k bs, List.drop_eq_getElem_cons hk]
  simp [List.getD, hk]
 rcases hb with rfl | hb
 · rw [← e]; exact h
 · rw [e] at h hb
   simp only [List.mem_append, List.mem_cons, not_or] at hb
   rw [List.nodup_append] at h ⊢
   obtain ⟨n1, n2, n3⟩ := h
   have n2' := List.nodup_cons.1 n2
   refine ⟨n1, List.nodup_cons.2 ⟨hb.2.2, n2'.2⟩, ?_⟩
   intro a ha x hx
   rcases List.mem_cons.1 hx with rfl | hx
   · intro e; subst e; exact hb.1 ha
   · exact n3 a ha x (by simp [hx])
theorem nodup_put2 {bs : List Nat} {k b' b2 : Nat} (h : bs.Nodup) (hk : k < bs.length) (hb : b' = bs.getD k 0 ∨ b' ∉ bs) (h2 : b2 ∉ bs) (h3 : b2 ≠ b') : (bs.take k ++ b' :: b2 :: bs.drop (k + 1)).Nodup := by
 have h1 := nodup_put h hk hb
 rw [List.nodup_append] at h1 ⊢
 obtain ⟨n1, n2, n3⟩ := h1
 have n2' := List.nodup_cons.1 n2
 refine ⟨n1, List.nodup_cons.2 ⟨?_, List.nodup_cons.2 ⟨fun hm => h2 (List.mem_of_mem_drop hm), n2'.2⟩⟩, ?_⟩
 · intro hm
   rcases List.mem_cons.1 hm with e | hm
   · exact h3 e.symm
   · exact n2'.1 hm
 · intro a ha x hx
   rcases List.mem_cons.1 hx with rfl | hx
   · exact n3 a ha x (by simp)
   · rcases List.mem_cons.1 hx with rfl | hx
     · intro e; subst e; exact h2 (List.mem_of_mem_take ha)
     · exact n3 a ha x (by simp [hx])
theorem PList.ty : ∀ {vs : List Value} {gs : List (List Ce)} {bs : List Nat} {w : World}, PList vs gs bs w → ∀ b ∈ bs, ∃ cur, w.heap[b]? = some (.cells cur 38 (0, 0))
 | [], [], [], _, _, u, hu => by cases hu
 | _ :: _, _ :: _, _ :: _, _, h, u, hu => by
   rcases List.mem_cons.1 hu with rfl | hu
   · obtain ⟨cap, cur, _, _, _, h4, _⟩ := h.1
     exact ⟨cur, h4⟩
   · exact PList.ty h.2 u hu
theorem nodup_parts {bs : List Nat} {k : Nat} (h : bs.Nodup) (hk : k < bs.length) : (∀ b ∈ bs.take k, b ≠ bs.getD k 0) ∧ ∀ b ∈ bs.drop (k + 1), b ≠ bs.getD k 0 := by
 have e : bs = bs.take k ++ bs.getD k 0 :: bs.drop (k + 1) := by
  conv => lhs; rw [← List.take_append_drop k bs, List.drop_eq_getElem_cons hk]
  simp [List.getD, hk]
 obtain ⟨x, hx⟩ : ∃ x, bs.getD k 0 = x := ⟨_, rfl⟩
 rw [hx] at e ⊢
 rw [e, List.nodup_append] at h
 obtain ⟨n1, n2, n3⟩ := h
 have n2' := List.nodup_cons.1 n2
 exact ⟨fun b hb => n3 b hb x (by simp), fun b hb e => n2'.1 (e ▸ hb)⟩
theorem page_put {V vs' : List Value} {gs gs' : List (List Ce)} {bs bs' : List Nat} {w1 w6 : World} {k : Nat} (hPL : PList V gs bs w1) (hnd : bs.Nodup) (hk : k < gs.length) (keep : ∀ b ∈ bs, b ≠ bs.getD k 0 → w6.heap[b]? = w1.heap[b]?) (mid : PList vs' gs' bs' w6) :
 PList (V.take k ++ (vs' ++ V.drop (k + 1))) (gs.take k ++ (gs' ++ gs.drop (k + 1))) (bs.take k ++ (bs' ++ bs.drop (k + 1))) w6 := by
 have hn := nodup_parts hnd (show k < bs.length by rw [hPL.len.2]; exact hk)
 refine ((hPL.cut k).1.same fun b hb => keep b (List.mem_of_mem_take hb) (hn.1 b hb)).app (mid.app ((hPL.cut (k + 1)).2.same fun b hb => keep b (List.mem_of_mem_drop hb) (hn.2 b hb)))
theorem page_half {v : Value} {l : List Ce} {b h : Nat} {w : World} (hp : PageAt v l b w) (hh : h ≤ l.length) : PageAt (.slice (some ⟨b, 0, none⟩) h h) (l.take h) b w := by
 obtain ⟨cap, cur, rfl, h1, h2, h3, h4, h5⟩ := hp
 have hl : (l.take h).length = h := by rw [List.length_take]; omega
 refine ⟨h, cur, by rw [hl], by rw [hl]; exact Nat.le_refl _, by omega, h3, by omega, ?_⟩
 rw [hl, rowOf_take, ← h5, List.take_take, Nat.min_eq_left (by omega)]
theorem PageAt.caps {b n cap : Nat} {l : List Ce} {w : World} (hp : PageAt (.slice (some ⟨b, 0, none⟩) n cap) l b w) : l.length = n ∧ n ≤ cap ∧ cap ≤ maxLen := by
 obtain ⟨cap0, cur, he, h1, h2, h3, h4, h5⟩ := hp
 injection he with _ e1 e2
 subst e1 e2
 exact ⟨rfl, h1, h2⟩
theorem mem_of {p g cap N : Nat} {cur : Array Value} {bs : List Nat} {gs : List (List Ce)} {w : World} (hN : gs.length = N) (hp : w.heap[p]? = some (.cells #[.bool true, .slice (some ⟨g, 0, none⟩) N cap] 109 (0, 0))) (h0 : 0 < N) (h2 : N ≤ cap) (h3 : cap ≤ maxLen)
 (h4 : w.heap[g]? = some (.cells cur 134 (0, 0))) (h5 : cur.size = cap) (hnd : bs.Nodup) (hPL : PList (cur.toList.take N) gs bs w) (ok : PagesOk gs) : Mem p gs.flatten (p :: g :: bs) w := by
 subst hN
 exact ⟨gs, ⟨_, _, rfl, hp, PagesAt.shut h0 h2 h3 h4 h5 hnd hPL⟩, ok, rfl⟩
theorem ty_apart {w : World} {a b : Nat} {x y : Array Value} {s t : TypeId} (h : w.heap[a]? = some (.cells x s (0, 0))) (k : w.heap[b]? = some (.cells y t (0, 0))) (hst : s ≠ t) : a ≠ b := by
 intro e
 subst e
 rw [h] at k
 simp only [Option.some.injEq, Obj.cells.injEq] at k
 exact hst k.2.1
theorem PageAt.ty {v : Value} {l : List Ce} {b : Nat} {w : World} (h : PageAt v l b w) : ∃ cur, w.heap[b]? = some (.cells cur 38 (0, 0)) := by
 obtain ⟨cap, cur, _, _, _, h4, _⟩ := h
 exact ⟨cur, h4⟩
theorem put_two {p g g' cap C' n k m b' b2 cap2 cap' : Nat} {cur6 cur' : Array Value} {bs fs : List Nat} {gs : List (List Ce)} {L l' gk : List Ce} {c : Ce} {w w1 w6 w7 w8 : World} {V : List Value}
 (hn : gs.length = n) (hk : k < n) (hlen : l'.length = m + 1) (hm : 16 ≤ m) (hw16 : w1.heap.size ≤ w6.heap.size) (hPL : PList V gs bs w1) (hVn : V.length = n) (hnd : bs.Nodup) (hfs : fs = p :: g :: bs)
 (hg6 : w6.heap[g]? = some (.cells cur6 134 (0, 0))) (hp6 : w6.heap[p]? = some (.cells #[.bool true, .slice (some ⟨g, 0, none⟩) n cap] 109 (0, 0))) (hpage : PageAt (.slice (some ⟨b', 0, none⟩) (m + 1) cap') l' b' w6) (F6 : Fr fs w w6)
 (keep : ∀ b ∈ bs, b ≠ bs.getD k 0 → w6.heap[b]? = w1.heap[b]?) (hV : cur6.toList.take n = V.take k ++ ([.slice (some ⟨b', 0, none⟩) (m + 1) cap'] ++ V.drop (k + 1))) (hbnew : b' = bs.getD k 0 ∨ b' ∉ bs) (hbold : b' ∈ fs ∨ w.heap.size ≤ b')
 (hins : insC c gk = l') (ok : PagesOk (gs.take k ++ partG (insC c gk) ++ gs.drop (k + 1))) (hfl : (gs.take k ++ partG (insC c gk) ++ gs.drop (k + 1)).flatten = L)
 (B7 : Below w6.heap.size w6 w7) (hb2 : w6.heap.size ≤ b2) (hp2 : PageAt (.slice (some ⟨b2, 0, none⟩) (m + 1 - (m + 1) / 2) cap2) (l'.drop ((m + 1) / 2)) b2 w7)
 (r1 : n + 1 ≤ C') (r2 : C' ≤ maxLen) (r3 : w8.heap[g']? = some (.cells cur' 134 (0, 0))) (r4 : cur'.size = C')
 (r5 : cur'.toList.take (n + 1) = cur6.toList.take k ++ ([.slice (some ⟨b', 0, none⟩) ((m + 1) / 2) ((m + 1) / 2), .slice (some ⟨b2, 0, none⟩) (m + 1 - (m + 1) / 2) cap2] ++ (cur6.toList.take n).drop (k + 1)))
 (r6 : g' = g ∨ w7.heap.size ≤ g') (r7 : Fr [g] w7 w8) :
 ∃ fs', Mem p L fs' (w8.setCell ⟨p, 1, none⟩ (.slice (some ⟨g', 0, none⟩) (n + 1) C')) ∧ (∀ x ∈ fs', x ∈ fs ∨ w.heap.size ≤ x) ∧ Fr fs w (w8.setCell ⟨p, 1, none⟩ (.slice (some ⟨g', 0, none⟩) (n + 1) C')) := by
 have hgl : g < w6.heap.size := (Go.ltA hg6)
 have hpl : p < w6.heap.size := (Go.ltA hp6)
 have hpg : p ≠ g := ty_apart hp6 hg6 (by decide)
 have hp8 : w8.heap[p]? = _ := (r7.block p (Nat.lt_of_lt_of_le hpl B7.size) (by simpa using hpg)).trans ((B7.block p hpl).trans hp6)
 have hset := heap_setCell_same w8 p 1 _ _ (.slice (some ⟨g', 0, none⟩) (n + 1) C') hp8
 have hg'p : g' ≠ p := ty_apart r3 hp8 (by decide)
 have hg9 := (heap_setCell_other w8 ⟨p, 1, none⟩ g' (.slice (some ⟨g', 0, none⟩) (n + 1) C') hg'p).trans r3
 have hblk : ∀ b, b < w6.heap.size → b ≠ g → b ≠ p → (w8.setCell ⟨p, 1, none⟩ (.slice (some ⟨g', 0, none⟩) (n + 1) C')).heap[b]? = w6.heap[b]? := fun b hb h1 h2 =>
  (heap_setCell_other w8 ⟨p, 1, none⟩ b _ h2).trans ((r7.block b (Nat.lt_of_lt_of_le hb B7.size) (by simpa using h1)).trans (B7.block b hb))
 obtain ⟨cb, hcb⟩ := hpage.ty
 have hb'g : b' ≠ g := ty_apart hcb hg6 (by decide)
 have hb'p : b' ≠ p := ty_apart hcb hp6 (by decide)
 have hb'l := hpage.lt
 have pg1 := (page_half (h := (m + 1) / 2) hpage (by omega)).same (hblk b' hb'l hb'g hb'p)
 have pg2 := hp2.same (w' := w8.setCell ⟨p, 1, none⟩ (.slice (some ⟨g', 0, none⟩) (n + 1) C')) ((heap_setCell_other w8 ⟨p, 1, none⟩ b2 _ (by show b2 ≠ p; omega)).trans (r7.block b2 hp2.lt (by simp; omega)))
 have keep9 : ∀ b ∈ bs, b ≠ bs.getD k 0 → (w8.setCell ⟨p, 1, none⟩ (.slice (some ⟨g', 0, none⟩) (n + 1) C')).heap[b]? = w1.heap[b]? := fun b hb hne => by
  obtain ⟨cu, hcu⟩ := hPL.ty b hb
  have h6 := (keep b hb hne).trans hcu
  rw [hblk b (Go.ltA h6) (ty_apart h6 hg6 (by decide)) (ty_apart h6 hp6 (by decide))]
  exact keep b hb hne
 have hPL9 := page_put (vs' := [.slice (some ⟨b', 0, none⟩) ((m + 1) / 2) ((m + 1) / 2), .slice (some ⟨b2, 0, none⟩) (m + 1 - (m + 1) / 2) cap2]) (gs' := [l'.take ((m + 1) / 2), l'.drop ((m + 1) / 2)]) (bs' := [b', b2]) hPL hnd (by omega) keep9 ⟨pg1, pg2, trivial⟩
 have hVk : (V.take k).length = k := by rw [List.length_take]; omega
 have e1 : cur6.toList.take k = V.take k := by
  have : (cur6.toList.take n).take k = cur6.toList.take k := by rw [List.take_take, Nat.min_eq_left (by omega)]
  rw [← this, hV, List.take_left' hVk]
 have e2 : (cur6.toList.take n).drop (k + 1) = V.drop (k + 1) := by
  rw [hV, ← List.append_assoc, List.drop_left' (by rw [List.length_append, hVk]; rfl)]
 rw [e1, e2] at r5
 rw [← r5] at hPL9
 have hpart : partG (insC c gk) = [l'.take ((m + 1) / 2), l'.drop ((m + 1) / 2)] := by
  rw [hins]
  unfold partG
  rw [if_pos (by omega), hlen]
 rw [hpart, List.append_assoc] at ok hfl
 have hkb : k < bs.length := by rw [hPL.len.2]; omega
 have hb2n : b2 ∉ bs := fun hm => by have := hPL.lt b2 hm; omega
 refine ⟨p :: g' :: (bs.take k ++ ([b', b2] ++ bs.drop (k + 1))), ?_, ?_, ?_⟩
 · rw [← hfl]
   refine mem_of (N := n + 1) ?_ hset (by omega) r1 r2 hg9 r4 (by simpa using nodup_put2 hnd hkb hbnew hb2n (by omega)) hPL9 ok
   rw [List.length_append, List.length_append, List.length_take, List.length_drop, hn]
   simp
   omega
 · have hw := F6.size
   have h7 := B7.size
   intro x hx
   rcases List.mem_cons.1 hx with rfl | hx
   · left; rw [hfs]; simp
   · rcases List.mem_cons.1 hx with rfl | hx
     · rcases r6 with h | h
       · left; rw [hfs, h]; simp
       · right; omega
     · rcases List.mem_append.1 hx with hx | hx
       · left; rw [hfs]; simp [List.mem_of_mem_take hx]
       · rcases List.mem_append.1 hx with hx | hx
         · simp only [List.mem_cons, List.not_mem_nil, or_false] at hx
           rcases hx with hx | hx
           · rw [hx]; exact hbold
           · right; omega
         · left; rw [hfs]; simp [List.mem_of_mem_drop hx]
 · exact (((F6.trans (Fr.of_below (S := []) B7) (by simp)).trans r7 (by intro x hx; simp only [List.mem_singleton] at hx; subst hx; left; rw [hfs]; simp)).set ⟨p, 1, none⟩ (.inl (by rw [hfs]; simp)) _)
theorem set_take {cur : Array Value} {k n : Nat} (v : Value) (hk : k < n) (hn : n ≤ cur.size) : (cur.setIfInBounds k v).toList.take n = (cur.toList.take n).take k ++ ([v] ++ (cur.toList.take n).drop (k + 1)) := by
 have hl : cur.toList.length = cur.size := Array.length_toList
 rw [Array.toList_setIfInBounds, List.take_set, List.set_eq_take_append_cons_drop, if_pos (by rw [List.length_take]; omega)]
 rfl
end Go.Proofs.YtoglloafpnopaaaGreat
