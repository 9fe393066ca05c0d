/- The walk of the law FnHeadingsOf: for every code it returns true and changes nothing that was there. No condition. -/
import Derived.Test.YtdjilkohnhejiaaHeadsOf
import Derived.Test.YtdjilkohnhejiaaDrawHeads2
import Derived.Test.YtdjilkohnhejiaaAlive
namespace Go.Proofs.Ytdjilkohnhejiaa
open Go.RowKit
set_option linter.unusedVariables false

/-- All headings of the list before a page: what the last one is. -/
theorem hFold_gen (a z : Int) (haz : a ≤ z) : ∀ (l : List Heading) (p : Int) (s t : H3), headsGo p l = true → t.b = (if s.f = 0 then s.b else s.l) → (s.f ≠ 0 → a ≤ p) →
    (l.foldl (hStep z 30) t).b = (let u := l.foldl (hStep a z) s; if u.f = 0 then u.b else u.l)
  | [], p, s, t, _, h, _ => h
  | h :: r, p, s, t, e, ht, hs => by
    simp only [headsGo, Bool.and_eq_true, decide_eq_true_eq] at e
    obtain ⟨⟨⟨e1, e2⟩, e3⟩, e4⟩ := e
    have e1' := inB_iff.1 e1
    have e2' := inB_iff.1 e2
    rw [List.foldl_cons, List.foldl_cons]
    refine hFold_gen a z haz r h.pos _ _ e4 ?_ ?_
    · unfold hStep
      by_cases h1 : h.pos < a
      · have hf : s.f = 0 := by
          rcases Decidable.em (s.f = 0) with h0 | h0
          · exact h0
          · have := hs h0; omega
        simp [h1, show h.pos < z by omega, hf]
      · by_cases h2 : h.pos < z
        · have hnz : h.num ≠ 0 := by omega
          by_cases hf : s.f = 0 <;> simp [h1, h2, hf, hnz]
        · simp only [h1, h2, if_false]
          by_cases h3 : h.pos < 30
          · simp only [h3, if_true]; exact ht
          · simp only [h3, if_false]; exact ht
    · unfold hStep
      by_cases h1 : h.pos < a
      · simp only [h1, if_true]
        intro hf
        have := hs hf; omega
      · intro _; omega
theorem headsOf_ok {rs : List Heading} {a z : Int} (hv : headsValid rs = true) (h0 : 0 ≤ a) (h1 : a ≤ z) (h2 : z ≤ 30) : headsOf rs a z = hEnd (hFold a z rs) := by
  rw [headsOf, if_pos]
  simp [hGuard, hv, inB]
  omega
theorem hEnd_l (s : H3) : (hEnd s).l = if s.f = 0 then s.b else s.l := by
  unfold hEnd; split <;> simp_all
theorem hEnd_b (s : H3) : (hEnd s).b = s.b := by
  unfold hEnd; split <;> rfl
theorem hFold_same (a : Int) : ∀ (l : List Heading) (s : H3), s.f = 0 → (l.foldl (hStep a a) s).f = 0
  | [], s, h => h
  | h :: t, s, hs => by
    rw [List.foldl_cons]
    refine hFold_same a t _ ?_
    unfold hStep
    by_cases h1 : h.pos < a <;> simp [h1, hs]
theorem hFold_b (a z : Int) (haz : a ≤ z) : ∀ (l : List Heading) (s t : H3), s.b = t.b → (l.foldl (hStep a a) s).b = (l.foldl (hStep a z) t).b
  | [], s, t, h => h
  | h :: r, s, t, hst => by
    rw [List.foldl_cons, List.foldl_cons]
    refine hFold_b a z haz r _ _ ?_
    unfold hStep
    by_cases h1 : h.pos < a
    · simp [h1]
    · by_cases h2 : h.pos < z <;> simp [h1, h2, hst]
theorem heads_top {rs : List Heading} {a z : Int} (hv : headsValid rs = true) (h0 : 0 ≤ a) (h1 : a ≤ z) (h2 : z ≤ 30) : (headsOf rs z 30).b = (headsOf rs a z).l := by
  rw [headsOf_ok hv h0 h1 h2, headsOf_ok hv (by omega) h2 (Int.le_refl _), hEnd_b, hEnd_l]
  simp only [headsValid, Bool.and_eq_true] at hv
  exact hFold_gen a z h1 rs 0 ⟨0, 0, 0⟩ ⟨0, 0, 0⟩ hv.1 rfl (fun h => absurd rfl h)
theorem heads_none {rs : List Heading} {a z : Int} (hv : headsValid rs = true) (h0 : 0 ≤ a) (h1 : a ≤ z) (h2 : z ≤ 30) :
    (headsOf rs a a).b = (headsOf rs a z).b ∧ (headsOf rs a a).f = (headsOf rs a z).b ∧ (headsOf rs a a).l = (headsOf rs a z).b := by
  rw [headsOf_ok hv h0 h1 h2, headsOf_ok hv h0 (Int.le_refl _) (by omega), hEnd_b, hEnd_b]
  have hf := hFold_same a rs ⟨0, 0, 0⟩ rfl
  have hb := hFold_b a z h1 rs ⟨0, 0, 0⟩ ⟨0, 0, 0⟩ rfl
  have hf' : (hFold a a rs).f = 0 := hf
  rw [hEnd, if_pos hf']
  exact ⟨hb, hb, hb⟩
theorem heads_bad {rs : List Heading} {a z : Int} (h : headsValid rs = false ∨ a < 0 ∨ 30 < z ∨ z < a) : headsOf rs a z = ⟨0, 0, 0⟩ := by
  rw [headsOf, if_neg]
  rcases h with h | h | h | h
  · simp [hGuard, h]
  all_goals simp [hGuard, inB]; omega

set_option maxHeartbeats 1600000 in
theorem w_FnHeadingsOf (A : Option Addr) (n c : Nat) (xs : List Int) (w : World) (h : CodeAt w A n c xs) :
    Calls Try.prog 6 #[.slice A n c] w fun e w' => e = .returned (.bool true) ∧ Below w.heap.size w w' := by
  have hcm := h.2
  unfold maxLen at hcm
  by_cases hbig : 1048576 < n
  · go_enter Try.func6, Try.ntmps6
    go_wp2
    go_ret
    exact ⟨rfl, Below.refl _ _⟩
  · go_enter Try.func6, Try.ntmps6
    go_wp2_with fail
    refine (c_drawHeadingsOf A n c xs _ h).mono ?_
    rintro e w1 ⟨A1, c1, rs, a, z, rfl, hl1, ha, hz, R, B⟩
    obtain ⟨b0, HB⟩ : ∃ y, Hid (y = (headsOf rs a z).b) := ⟨_, rfl⟩
    obtain ⟨f0, HF⟩ : ∃ y, Hid (y = (headsOf rs a z).f) := ⟨_, rfl⟩
    obtain ⟨l0, HL⟩ : ∃ y, Hid (y = (headsOf rs a z).l) := ⟨_, rfl⟩
    go_wp2_with fail
    refine (c_headsOfL A1 _ c1 rs a z _ R.at_).mono ?_
    rintro e w2 ⟨he, hb⟩
    rw [← unhide HB, ← unhide HF, ← unhide HL] at he
    subst he
    replace B := bnext B hb
    replace R := R.next hb
    clear hb
    go_wp2_with fail
    refine (c_headsOfL' A1 _ c1 rs a z _ R.at_).mono ?_
    rintro e w3 ⟨he, hb⟩
    rw [← unhide HB, ← unhide HF, ← unhide HL] at he
    subst he
    replace B := bnext B hb
    replace R := R.next hb
    clear hb
    have t1 : (b0 != b0) = false := by simp
    have t2 : (f0 != f0) = false := by simp
    have t3 : (l0 != l0) = false := by simp
    by_cases hok : headsValid rs = true ∧ 0 ≤ a ∧ a ≤ z ∧ z ≤ 30
    · obtain ⟨hv, ha0, haz, hz0⟩ := hok
      have n1 := heads_top hv ha0 haz hz0
      obtain ⟨n2, n3, n4⟩ := heads_none hv ha0 haz hz0
      rw [← unhide HL] at n1
      rw [← unhide HB] at n2 n3 n4
      have N1 := hide n1
      have N2 := hide n2
      have N3 := hide n3
      have N4 := hide n4
      clear n1 n2 n3 n4
      go_wp2_with fail
      refine (c_headsValid_b' hv _ R.at_).mono ?_
      rintro e w4 ⟨rfl, hb⟩
      replace B := bnext B hb
      replace R := R.next hb
      clear hb hv
      go_wp2_with fail
      refine (c_headsOfL A1 _ c1 rs z 30 _ R.at_).mono ?_
      rintro e w5 ⟨he, hb⟩
      rw [unhide N1] at he
      subst he
      replace B := bnext B hb
      replace R := R.next hb
      clear hb
      go_wp2_with fail
      refine (c_headsOfL A1 _ c1 rs a a _ R.at_).mono ?_
      rintro e w6 ⟨he, hb⟩
      rw [unhide N2, unhide N3, unhide N4] at he
      subst he
      replace B := bnext B hb
      clear hb
      go_wp2
      go_ret
      exact ⟨by simp, B⟩
    · have hbad : headsOf rs a z = ⟨0, 0, 0⟩ := heads_bad (by
        rcases hv : headsValid rs with _ | _
        · exact .inl rfl
        · right
          have hok2 : ¬ (0 ≤ a ∧ a ≤ z ∧ z ≤ 30) := fun h => hok ⟨hv, h⟩
          omega)
      obtain rfl : b0 = 0 := by rw [unhide HB, hbad]
      obtain rfl : f0 = 0 := by rw [unhide HF, hbad]
      obtain rfl : l0 = 0 := by rw [unhide HL, hbad]
      clear hbad t1 t2 t3
      cases hv : headsValid rs
      · go_wp2_with fail
        refine (c_headsValid_b' hv _ R.at_).mono ?_
        rintro e w4 ⟨rfl, hb⟩
        replace B := bnext B hb
        clear hb hv hok
        go_wp2_with fail
        refine (c_alive _).mono ?_
        rintro e w5 ⟨rfl, hb⟩
        go_wp2
        go_ret
        exact ⟨rfl, bnext B hb⟩
      · have hor : a < 0 ∨ (0 ≤ a ∧ 30 < z) ∨ (0 ≤ a ∧ z ≤ 30 ∧ z < a) := by
          have hok2 : ¬ (0 ≤ a ∧ a ≤ z ∧ z ≤ 30) := fun h => hok ⟨hv, h⟩
          omega
        clear hok
        rcases hor with hor | hor | hor
        all_goals
          go_wp2_with fail
          refine (c_headsValid_b' hv _ R.at_).mono ?_
          rintro e w4 ⟨rfl, hb⟩
          replace B := bnext B hb
          clear hb
          go_wp2_with fail
          refine (c_alive _).mono ?_
          rintro e w5 ⟨rfl, hb⟩
          go_wp2
          go_ret
          exact ⟨rfl, bnext B hb⟩
end Go.Proofs.Ytdjilkohnhejiaa
