/- The walk of the law FnSplitAll: for every code it returns true and changes nothing that was there. No condition. -/
import Derived.Test.YtfpddjglnhkndaaSplit3
import Derived.Test.YtfpddjglnhkndaaDrawSplitAll
import Derived.Test.YtfpddjglnhkndaaAlive
namespace Go.Proofs.Ytfpddjglnhkndaa
open Go.RowKit
set_option linter.unusedVariables false

theorem splitGo_sum (rs : List Row) : ∀ (hs : List Int) (a : Nat) (acc l : List Int) (m : Nat), a ≤ rs.length → splitGo rs hs a acc = some (l, m) → l.sum + m = acc.sum + (rs.length - a : Nat)
  | [], a, acc, l, m, ha, h => by
    simp [splitGo] at h; obtain ⟨rfl, rfl⟩ := h; rfl
  | x :: t, a, acc, l, m, ha, h => by
    rw [splitGo] at h
    split at h
    · have hle := splitN_le (rs.drop a) x
      rw [List.length_drop] at hle
      have := splitGo_sum rs t _ _ l m (by omega) h
      rw [this]; simp; omega
    · cases h
theorem splitGo_bd (rs : List Row) : ∀ (hs : List Int) (a : Nat) (acc l : List Int) (m : Nat), (∀ x ∈ acc, 0 ≤ x ∧ x ≤ rs.length) → splitGo rs hs a acc = some (l, m) → ∀ x ∈ l, 0 ≤ x ∧ x ≤ rs.length
  | [], a, acc, l, m, ha, h => by
    simp [splitGo] at h; obtain ⟨rfl, rfl⟩ := h; exact ha
  | x :: t, a, acc, l, m, ha, h => by
    rw [splitGo] at h
    split at h
    · refine splitGo_bd rs t _ _ l m (fun y hy => ?_) h
      rcases List.mem_append.1 hy with hy | hy
      · exact ha y hy
      · simp at hy; subst hy
        have := splitN_le (rs.drop a) x
        rw [List.length_drop] at this; omega
    · cases h
/-- What the law asks of a split. -/
theorem splitAll_law (rs : List Row) (hs : List Int) (hrs : rs.length ≤ 1000) :
    (splitAll rs hs = ([], -1)) ∨ (0 ≤ (splitAll rs hs).2 ∧ (splitAll rs hs).2 ≤ 1000 ∧ (splitAll rs hs).1.sum + (splitAll rs hs).2 = rs.length ∧ (splitAll rs hs).1.length = hs.length ∧ (∀ x ∈ (splitAll rs hs).1, 0 ≤ x ∧ x ≤ 1000000) ∧ 0 ≤ (splitAll rs hs).1.sum) := by
  unfold splitAll
  split
  · cases hg : splitGo rs hs 0 [] with
    | none => exact .inl rfl
    | some p =>
      obtain ⟨l, m⟩ := p
      have h1 := splitGo_sum rs hs 0 [] l m (by omega) hg
      have h2 := splitGo_len rs hs 0 [] l m hg
      have h3 := splitGo_bd rs hs 0 [] l m (by simp) hg
      have hl : 0 ≤ l.sum := by
        clear h1 h2 hg
        induction l with
        | nil => simp
        | cons x t ih =>
          have := h3 x (by simp)
          have := ih (fun y hy => h3 y (by simp [hy]))
          simp; omega
      simp at h1 h2
      refine .inr ⟨by simp [ofGo], by simp [ofGo]; omega, by simp [ofGo]; omega, by simp [ofGo]; omega, fun x hx => ?_, hl⟩
      have := h3 x hx; omega
  · exact .inl rfl

set_option maxHeartbeats 800000 in
theorem w_FnSplitAll (A : Option Addr) (n c : Nat) (xs : List Int) (w : World) (h : CodeAt w A n c xs) :
    Calls Try.prog 14 #[.slice A n c] w fun e w' => e = .returned (.bool true) ∧ Below w.heap.size w w' := by
  have hcm := h.2
  unfold maxLen at hcm
  by_cases hbig : 1048576 < n
  · go_enter Try.func14, Try.ntmps14
    go_wp2
    go_ret
    exact ⟨rfl, Below.refl _ _⟩
  · go_enter Try.func14, Try.ntmps14
    go_wp2_with fail
    refine (c_drawSplitAll A n c xs _ h).mono ?_
    rintro e w1 ⟨A1, c1, rs, A2, c2, hs, rfl, hl1, hl2, R, I, B⟩
    have hlaw := splitAll_law rs hs (by omega)
    have hlen := splitAll_len rs hs
    go_wp2_with fail
    refine (c_splitAll A1 _ c1 rs A2 _ c2 hs _ R.at_ I.at_).mono ?_
    rintro e w2 ⟨AX, cX, rfl, X, hb⟩
    replace B := bnext B hb
    replace R := R.next hb
    replace I := I.next hb
    clear hb
    go_wp2_with fail
    refine (c_splitAll' A1 _ c1 rs A2 _ c2 hs _ R.at_ I.at_).mono ?_
    rintro e w3 ⟨AY, cY, rfl, Y, hb⟩
    replace B := bnext B hb
    replace X := X.next hb
    clear hb
    obtain ⟨L, HL⟩ : ∃ L, Hid (L = (splitAll rs hs).1) := ⟨_, rfl⟩
    obtain ⟨q, HQ⟩ : ∃ q, Hid (q = (splitAll rs hs).2) := ⟨_, rfl⟩
    rw [← unhide HL] at X Y
    rw [← unhide HL, ← unhide HQ]
    go_wp2_with fail
    refine (c_sameInts_same _ _ _ _ _ _ L _ X.at_ Y.at_).mono ?_
    rintro e w4 ⟨rfl, hb⟩
    replace B := bnext B hb
    replace X := X.next hb
    clear hb
    rcases hlaw with h0 | ⟨h1, h2, h3, h4, h5, hs0⟩
    · have hL := unhide HL
      have hq := unhide HQ
      rw [h0] at hL hq
      clear HL HQ h0
      subst hL hq
      go_wp2_with fail
      refine (c_alive _).mono ?_
      rintro e w5 ⟨rfl, hb⟩
      go_wp2
      go_ret
      exact ⟨rfl, bnext B hb⟩
    · rw [← unhide HL, ← unhide HQ] at h3
      rw [← unhide HL] at h4 h5 hlen hs0
      rw [← unhide HQ] at h1 h2
      have hs3 : L.sum + q ≤ 1000 := by omega
      have hz : (L.sum + q == (rs.length : Int)) = true := by simp [h3]
      have hz2 : ((L.length : Int) == (hs.length : Int)) = true := by simp [h4]
      clear HL HQ h3 h4
      go_wp2_with fail
      refine (c_total _ _ _ L _ X.at_ h5 (by omega)).mono ?_
      rintro e w5 ⟨rfl, hb⟩
      go_wp2
      go_ret
      exact ⟨rfl, bnext B hb⟩
end Go.Proofs.Ytfpddjglnhkndaa
