/- The walk of the law FnHeadingsValid: for every code it returns true and changes nothing that was there. No condition. -/
import Derived.Test.YtdjilkohnhejiaaHeadsA
import Derived.Test.YtdjilkohnhejiaaDrawHeads2
import Derived.Test.YtdjilkohnhejiaaAppend
import Derived.Test.YtdjilkohnhejiaaAlive
namespace Go.Proofs.Ytdjilkohnhejiaa
open Go.RowKit
set_option linter.unusedVariables false

theorem HeadsAt.cut {w : World} {A : Option Addr} {n c i j : Nat} {rs : List Heading} (h : HeadsAt w A n c rs) (hi : i ≤ j) (hj : j ≤ n) :
    HeadsAt w (A.map (·.add (i * 2))) (j - i) (c - i) ((rs.drop i).take (j - i)) := by
  refine ⟨?_, by have := h.bd; omega⟩
  rw [flatMap_take Heading.cells_len, flatMap_drop Heading.cells_len]
  exact h.1.cut hi hj
theorem HeadsAt.congrA {w : World} {A A' : Option Addr} {n c : Nat} {rs : List Heading} (h : HeadsAt w A n c rs) (e : 0 < n → A' = A) : HeadsAt w A' n c rs := ⟨h.1.congrA e, h.2⟩
theorem HeadsAt.from_ {w : World} {A : Option Addr} {n c m : Nat} {rs : List Heading} (h : HeadsAt w A n c rs) (hm : m ≤ n) :
    HeadsAt w (if c = m then A else A.map (fun x => x.add (m * 2))) (n - m) (c - m) (rs.drop m) := by
  have h1 := h.cut hm (Nat.le_refl n)
  rw [List.take_of_length_le (by rw [List.length_drop, h.len]; exact Nat.le_refl _)] at h1
  exact h1.congrA (fun hn => by rw [if_neg (by have := h.bd; omega)])
theorem heads_from {w : World} {A : Option Addr} {n c m : Nat} {rs : List Heading} (h : HeadsAt w A n c rs) (hm : m ≤ n) :
    ∃ A1, HeadsAt w A1 (n - m) (c - m) (rs.drop m) ∧ ∀ wx : World, (Instr.slice 25 (.slice A n c) (some (.int .i64 (m : Int))) none none).run Try.prog wx = .ok (.slice A1 (n - m) (c - m)) wx := by
  refine ⟨_, h.from_ hm, fun wx => ?_⟩
  have := h.bd
  simp [go_sem, hm]
theorem headsGo_mono {p q : Int} (hpq : q ≤ p) : ∀ {l : List Heading}, headsGo p l = true → headsGo q l = true
  | [], _ => rfl
  | h :: t, e => by
    simp only [headsGo, Bool.and_eq_true, decide_eq_true_eq] at e ⊢
    exact ⟨⟨e.1.1, by omega⟩, e.2⟩
theorem headsGo_drop : ∀ (l : List Heading) (k : Nat) (p : Int), 0 ≤ p → headsGo p l = true → headsGo 0 (l.drop k) = true
  | [], k, p, _, _ => by simp [headsGo]
  | h :: t, 0, p, hp, e => headsGo_mono hp e
  | h :: t, k + 1, p, hp, e => by
    simp only [headsGo, Bool.and_eq_true, decide_eq_true_eq] at e
    exact headsGo_drop t k h.pos (by omega) e.2
theorem headsValid_drop {rs : List Heading} (h : headsValid rs = true) (k : Nat) : headsValid (rs.drop k) = true := by
  simp only [headsValid, Bool.and_eq_true, decide_eq_true_eq] at h ⊢
  exact ⟨headsGo_drop rs k 0 (Int.le_refl _) h.1, by rw [List.length_drop]; omega⟩
theorem headsGo_bad : ∀ (l : List Heading) (p : Int), headsGo p (l ++ [⟨30, 1⟩]) = false
  | [], p => by simp [headsGo, inB]
  | h :: t, p => by simp [headsGo, headsGo_bad t h.pos]
theorem headsValid_bad (rs : List Heading) : headsValid (rs ++ [⟨30, 1⟩]) = false := by simp [headsValid, headsGo_bad]

set_option maxHeartbeats 800000 in
theorem w_FnHeadingsValid (A : Option Addr) (n c : Nat) (xs : List Int) (w : World) (h : CodeAt w A n c xs) :
    Calls Try.prog 4 #[.slice A n c] w fun e w' => e = .returned (.bool true) ∧ Below w.heap.size w w' := by
  obtain ⟨i0, hi, hz0, hz1, hz2⟩ := info_parts infoHeading
  have hcm := h.2
  unfold maxLen at hcm
  by_cases hbig : 1048576 < n
  · go_enter Try.func4, Try.ntmps4
    go_wp2
    go_ret
    exact ⟨rfl, Below.refl _ _⟩
  · go_enter Try.func4, Try.ntmps4
    go_wp2_with fail
    refine (c_drawHeadingsValid A n c xs _ h).mono ?_
    rintro e w1 ⟨A1, c1, rs, rfl, hl1, R, B⟩
    have hbd := R.at_.bd
    go_wp2_with fail
    refine (c_headsValid A1 _ c1 rs _ R.at_).mono ?_
    rintro e w2 ⟨rfl, hb⟩
    replace B := bnext B hb
    replace R := R.next hb
    clear hb
    go_wp2_with fail
    refine (c_headsValid' A1 _ c1 rs _ R.at_).mono ?_
    rintro e w3 ⟨rfl, hb⟩
    replace B := bnext B hb
    replace R := R.next hb
    clear hb
    have hh : rs.length / 2 ≤ rs.length := Nat.div_le_self _ _
    obtain ⟨A2, hR2, hsl0⟩ := heads_from R.at_ hh
    have hsl := fun wx => hsl0 wx
    rw [show ((rs.length / 2 : Nat) : Int) = (rs.length : Int) / 2 from by omega] at hsl
    clear hsl0
    cases hv : headsValid rs
    · go_wp2_with (first
        | (at_builtin; refine wpList_append_rd _ (by rfl) (.tmp 27) (.tmp 28) 25 rfl w3.heap.size 32 i0 _ 2 16 Try.underlying25 hi hz0 hz1 hz2 rfl (by decide) _ 0 [] rfl (World.ownsRow_made w3 #[] 0 (Nat.le_refl _) (Nat.zero_le _) rfl) A1 rs.length c1 (rs.flatMap Heading.cells) rfl ((R.at_.next (bof w3 (.cells #[] 32))).1) (heads_one rs) (by unfold maxLen; omega) (by omega) (by simp) ?_; intro v4 w4 O4 g4)
        | (at_builtin; refine wpList_append_rd _ (by rfl) (.tmp 29) (.tmp 31) 25 rfl w3.heap.size 32 i0 _ 2 16 Try.underlying25 hi hz0 hz1 hz2 rfl (by decide) _ _ _ rfl (World.ownsRow.alloc O4 _) (some ⟨w4.heap.size, 0, none⟩) 1 1 [.int .i64 30, .int .i64 1] rfl (rd_new w4 32 _ 1 2 rfl) (one_heads ⟨30, 1⟩) (by unfold maxLen; omega) (by omega) (by have := g4.size; simp at this; simp; omega) ?_; intro v5 w5 O5 g5))
      have O6 : w5.ownsRow w3.heap.size 32 2 v5 (rs ++ [(⟨30, 1⟩ : Heading)]).length ((rs ++ [(⟨30, 1⟩ : Heading)]).flatMap Heading.cells) := by
        rw [flat_snoc_heads]; simpa using O5
      obtain ⟨A6, c6, rfl, O7⟩ := OwnH.of O6
      have B4 := (bmk B (.cells #[] 32)).grown g4 (by have := B.size; simp; omega) (fun q hq => by have e := Option.some.inj hq; have := B.size; dsimp only at e; omega)
      have B5 := (bmk B4 (.cells #[.int .i64 30, .int .i64 1] 32)).grown g5 (by have := B4.size; simp; omega) (fun q hq => by have := (O4.lt q hq).1; have := B.size; omega)
      refine (c_headsValid A6 _ c6 _ _ O7.at_).mono ?_
      rintro e w6 ⟨he, hb⟩
      rw [headsValid_bad] at he
      subst he
      replace B5 := bnext B5 hb
      clear hb
      go_wp2_with fail
      refine (c_alive _).mono ?_
      rintro e w7 ⟨rfl, hb⟩
      go_wp2
      go_ret
      exact ⟨rfl, bnext B5 hb⟩
    · go_wp2_with fail
      refine (c_headsValid A2 _ _ _ _ hR2).mono ?_
      rintro e wh ⟨he, hb⟩
      rw [headsValid_drop hv] at he
      subst he
      replace B := bnext B hb
      replace R := R.next hb
      clear hb
      go_wp2_with (first
        | (at_builtin; refine wpList_append_rd _ (by rfl) (.tmp 27) (.tmp 28) 25 rfl wh.heap.size 32 i0 _ 2 16 Try.underlying25 hi hz0 hz1 hz2 rfl (by decide) _ 0 [] rfl (World.ownsRow_made wh #[] 0 (Nat.le_refl _) (Nat.zero_le _) rfl) A1 rs.length c1 (rs.flatMap Heading.cells) rfl ((R.at_.next (bof wh (.cells #[] 32))).1) (heads_one rs) (by unfold maxLen; omega) (by omega) (by simp) ?_; intro v4 w4 O4 g4)
        | (at_builtin; refine wpList_append_rd _ (by rfl) (.tmp 29) (.tmp 31) 25 rfl wh.heap.size 32 i0 _ 2 16 Try.underlying25 hi hz0 hz1 hz2 rfl (by decide) _ _ _ rfl (World.ownsRow.alloc O4 _) (some ⟨w4.heap.size, 0, none⟩) 1 1 [.int .i64 30, .int .i64 1] rfl (rd_new w4 32 _ 1 2 rfl) (one_heads ⟨30, 1⟩) (by unfold maxLen; omega) (by omega) (by have := g4.size; simp at this; simp; omega) ?_; intro v5 w5 O5 g5))
      have O6 : w5.ownsRow wh.heap.size 32 2 v5 (rs ++ [(⟨30, 1⟩ : Heading)]).length ((rs ++ [(⟨30, 1⟩ : Heading)]).flatMap Heading.cells) := by
        rw [flat_snoc_heads]; simpa using O5
      obtain ⟨A6, c6, rfl, O7⟩ := OwnH.of O6
      have B4 := (bmk B (.cells #[] 32)).grown g4 (by have := B.size; simp; omega) (fun q hq => by have e := Option.some.inj hq; have := B.size; dsimp only at e; omega)
      have B5 := (bmk B4 (.cells #[.int .i64 30, .int .i64 1] 32)).grown g5 (by have := B4.size; simp; omega) (fun q hq => by have := (O4.lt q hq).1; have := B.size; omega)
      refine (c_headsValid A6 _ c6 _ _ O7.at_).mono ?_
      rintro e w6 ⟨he, hb⟩
      rw [headsValid_bad] at he
      subst he
      replace B5 := bnext B5 hb
      clear hb
      go_wp2_with fail
      refine (c_alive _).mono ?_
      rintro e w7 ⟨rfl, hb⟩
      go_wp2
      go_ret
      exact ⟨rfl, bnext B5 hb⟩
end Go.Proofs.Ytdjilkohnhejiaa
