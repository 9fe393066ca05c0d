/- The walk of the law FnLeavesRight: for every code it returns true and changes nothing that was there. No condition. -/
import Derived.Test.YtfflnkkhemaanaaDrawRight
import Derived.Test.YtfflnkkhemaanaaRight
import Derived.Test.YtfflnkkhemaanaaRight2
import Derived.Test.YtfflnkkhemaanaaRightP
import Derived.Test.YtfflnkkhemaanaaAlive
namespace Go.Proofs.Ytfflnkkhemaanaa
open Go.RowKit
set_option linter.unusedVariables false

theorem LeavesAt.take {w : World} {A : Option Addr} {n c k : Nat} {ls : List LfV} (h : LeavesAt w A n c ls) (hk : k ≤ n) : LeavesAt w A k c (ls.take k) := by
  refine ⟨⟨?_, by have := h.bd; omega⟩, fun l hl => h.figs l (List.mem_of_mem_take hl)⟩
  rw [flatMap_take LfV.cells_len]
  exact h.sl.1.take hk
theorem leaves_less {rs : List Row} {h : Int} {ls : List LfV} {l : LfV} {M : Nat} (hx : ls[M]? = some l) (hn : ls.length = M + 1) (e : leavesRight rs h (ls.map LfV.leaf) = true) (hs : l.from_ < l.to_ ∨ 0 < l.notes ∨ 0 < l.figs.length) : leavesRight rs h ((ls.take M).map LfV.leaf) = false := by
  refine right_less (l := l.leaf) ?_ hs
  have h1 := take_snoc' hx
  rw [List.take_of_length_le (by omega)] at h1
  rw [h1, List.map_append] at e
  exact e

set_option maxRecDepth 100000 in
set_option maxHeartbeats 1600000 in
theorem w_FnLeavesRight (A : Option Addr) (n c : Nat) (xs : List Int) (w : World) (h : CodeAt w A n c xs) :
    Calls Try.prog 6 #[.slice A n c] w fun e w' => e = .returned (.bool true) ∧ Below w.heap.size w w' := by
  have hcm := h.2
  unfold maxLen at hcm
  by_cases hbig : 1048576 < n
  · go_enter Try.func6, Try.ntmps6
    go_wp2
    go_ret
    exact ⟨rfl, Below.refl _ _⟩
  · go_enter Try.func6, Try.ntmps6
    go_wp2_with fail
    refine (c_drawLeavesRight A n c xs _ h).mono ?_
    rintro e w1 ⟨A1, c1, rs, y, A2, m, c2, ls, rfl, hl1, hm, R, X, B⟩
    have hbdR := R.bd
    have hbdX := X.bd
    have hlen := hide X.len
    clear hbig hcm h
    obtain ⟨ok, HOK⟩ : ∃ ok, Hid (leavesRight rs y (ls.map LfV.leaf) = ok) := ⟨_, rfl⟩
    go_wp2_with fail
    refine (c_leavesRight A1 _ c1 rs y A2 m c2 ls _ R X (by omega)).mono ?_
    rintro e w2 ⟨he, hb⟩
    rw [unhide HOK] at he
    subst he
    replace B := bnext B hb
    replace R := R.next hb
    replace X := X.next hb
    clear hb
    go_wp2_with fail
    refine (c_leavesRight' A1 _ c1 rs y A2 m c2 ls _ R X (by omega)).mono ?_
    rintro e w3 ⟨he, hb⟩
    rw [unhide HOK] at he
    subst he
    replace B := bnext B hb
    replace R := R.next hb
    replace X := X.next hb
    clear hb
    have hok : (ok != ok) = false := by simp
    cases ok with
    | false =>
      go_wp2_with fail
      refine (c_alive _).mono ?_
      rintro e w4 ⟨rfl, hb⟩
      go_wp2
      go_ret
      exact ⟨rfl, bnext B hb⟩
    | true =>
      cases m with
      | zero =>
        go_wp2_with fail
        refine (c_alive _).mono ?_
        rintro e w4 ⟨rfl, hb⟩
        go_wp2
        go_ret
        exact ⟨rfl, bnext B hb⟩
      | succ M =>
        obtain ⟨b, off, l, rfl, hbl, hx, hf, q0, q1, q2, q3⟩ := X.at_ (k := M) (by omega)
        have hless := fun hs => leaves_less hx (unhide hlen) (unhide HOK) hs
        have XT := X.take (k := M) (by omega)
        have hM1 : ((M : Int) + 1 == 0) = false := by simp; omega
        have HLS := hide hless
        have hfb := hf.bd
        clear hless hx X HOK
        by_cases hs1 : l.from_ < l.to_
        · go_wp2_with fail
          refine (c_leavesRight A1 _ c1 rs y _ M c2 (ls.take M) _ (R.next (bof _ _)) (XT.next (bof _ _)) (by omega)).mono ?_
          rintro e w4 ⟨he, hb⟩
          rw [unhide HLS (.inl hs1)] at he
          subst he
          go_wp2
          go_ret
          exact ⟨rfl, bnext (bmk B _) hb⟩
        by_cases hs2 : 0 < l.notes
        · go_wp2_with fail
          refine (c_leavesRight A1 _ c1 rs y _ M c2 (ls.take M) _ (R.next (bof _ _)) (XT.next (bof _ _)) (by omega)).mono ?_
          rintro e w4 ⟨he, hb⟩
          rw [unhide HLS (.inr (.inl hs2))] at he
          subst he
          go_wp2
          go_ret
          exact ⟨rfl, bnext (bmk B _) hb⟩
        by_cases hs3 : 0 < l.figs.length
        · go_wp2_with fail
          refine (c_leavesRight A1 _ c1 rs y _ M c2 (ls.take M) _ (R.next (bof _ _)) (XT.next (bof _ _)) (by omega)).mono ?_
          rintro e w4 ⟨he, hb⟩
          rw [unhide HLS (.inr (.inr hs3))] at he
          subst he
          go_wp2
          go_ret
          exact ⟨rfl, bnext (bmk B _) hb⟩
        go_wp2
        go_ret
        exact ⟨rfl, bmk B _⟩
end Go.Proofs.Ytfflnkkhemaanaa
