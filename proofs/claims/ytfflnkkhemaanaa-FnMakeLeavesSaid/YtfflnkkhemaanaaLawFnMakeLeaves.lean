/- The walk of the law FnMakeLeaves: for every code it returns true and changes nothing that was there. No condition. -/
import Derived.Test.YtfflnkkhemaanaaMake
import Derived.Test.YtfflnkkhemaanaaMake2
import Derived.Test.YtfflnkkhemaanaaMakeR
import Derived.Test.YtfflnkkhemaanaaRight
import Derived.Test.YtfflnkkhemaanaaDrawMake
import Derived.Test.YtfflnkkhemaanaaAlive
namespace Go.Proofs.Ytfflnkkhemaanaa
open Go.RowKit
set_option linter.unusedVariables false

set_option maxHeartbeats 1600000 in
theorem w_FnMakeLeaves (A : Option Addr) (n c : Nat) (xs : List Int) (w : World) (h : CodeAt w A n c xs) :
    Calls Try.prog 8 #[.slice A n c] w fun e w' => e = .returned (.bool true) ∧ Below w.heap.size w w' := by
  have hcm := h.2
  unfold maxLen at hcm
  by_cases hbig : 1048576 < n
  · go_enter Try.func8, Try.ntmps8
    go_wp2
    go_ret
    exact ⟨rfl, Below.refl _ _⟩
  · go_enter Try.func8, Try.ntmps8
    go_wp2_with fail
    refine (c_drawMakeLeaves A n c xs _ h).mono ?_
    rintro e w1 ⟨A1, c1, rs, y, rfl, hl1, ⟨hy0, hy1⟩, R, B⟩
    have hbdR := R.at_.bd
    clear hbig hcm h
    obtain ⟨ok, HOK⟩ : ∃ ok, Hid (makeOk rs y = ok) := ⟨_, rfl⟩
    go_wp2_with fail
    refine (c_makeLeaves A1 _ c1 rs y _ R.at_).mono ?_
    rintro e w2 ⟨A2, c2, l2, he, e2, X, hb⟩
    rw [unhide HOK] at he
    subst he
    replace B := bnext B hb
    replace R := R.next hb
    have E2 := hide e2
    have hl2 := lfs_len e2
    clear hb e2
    go_wp2_with fail
    refine (c_makeLeaves' A1 _ c1 rs y _ R.at_).mono ?_
    rintro e w3 ⟨A3, c3, l3, he, e3, Y, hb⟩
    rw [unhide HOK] at he
    subst he
    replace B := bnext B hb
    replace R := R.next hb
    replace X := X.next hb
    have hee : l2.map LfV.leaf = l3.map LfV.leaf := (unhide E2).trans e3.symm
    have hbX := X.at_.bd
    have hbY := Y.at_.bd
    have hll : l2.length = l3.length := by have := congrArg List.length hee; simpa using this
    rw [← hll] at hbY ⊢
    have LX := X.at_
    have LY := Y.at_
    rw [← hll] at LY
    have HEE := hide hee
    have hok : (ok != ok) = false := by simp
    clear hb e3 hee hll X Y
    obtain ⟨L, HL⟩ : ∃ L, Hid (l2.length = L) := ⟨_, rfl⟩
    rw [unhide HL] at hl2 hbX hbY LX LY ⊢
    go_wp2
    go_loopw [9] (fun i wr => ∃ k : Nat, k ≤ L ∧ i = .int .i64 k ∧ Below w3.heap.size w3 wr) (fun i _ => L - (intOf i).toNat)
    case atStart => exact ⟨0, Nat.zero_le _, rfl, Below.refl _ _⟩
    case round =>
      obtain ⟨k, hk, rfl, hbel⟩ := hrel
      by_cases hlt : k < L
      · obtain ⟨b, off, ⟨x, y1, z, P1, d1, fs⟩, rfl, hb, hx, hf, p0, p1, p2, p3⟩ := (LX.next hbel).at_ hlt
        obtain ⟨b', off', ⟨x', y', z', P2, d2, fs'⟩, rfl, hb', hx', hf', q0, q1, q2, q3⟩ := (LY.next hbel).at_ hlt
        have e : (⟨x, y1, z, fs⟩ : Leaf) = ⟨x', y', z', fs'⟩ := by
          have e1 : (l2.map LfV.leaf)[k]? = some ⟨x, y1, z, fs⟩ := by rw [List.getElem?_map, hx]; rfl
          have e2 : (l3.map LfV.leaf)[k]? = some ⟨x', y', z', fs'⟩ := by rw [List.getElem?_map, hx']; rfl
          rw [unhide HEE, e2] at e1
          exact (Option.some.inj e1).symm
        injection e with e1 e2 e3 e4
        subst e1 e2 e3 e4
        dsimp only at p0 p1 p2 p3 q0 q1 q2 q3
        clear hx hx'
        go_wp2
        go_region_with (go_at_call 31; refine (c_sameLeaf_same x y1 z P1 P2 _ _ d1 d2 fs _ (by first | exact hf | exact hf.next (by first | exact bdrewN (Below.refl _ _) _ | exact (Below.refl _ _).drew)) (by first | exact hf' | exact hf'.next (by first | exact bdrewN (Below.refl _ _) _ | exact (Below.refl _ _).drew))).mono ?_; rintro e w9 ⟨rfl, hb2⟩)
        all_goals
          go_wp2
          go_roundw
          case rel => exact ⟨k + 1, by omega, by go_num, bnext hbel.drew (by assumption)⟩
          case measure => simp [intOf]; omega
      · replace B := bnext B hbel
        replace R := R.next hbel
        replace LX := LX.next hbel
        have hbR := R.at_
        cases ok with
        | false =>
          have h00 : L = 0 := by
            have h1 := congrArg List.length (unhide E2)
            rw [makeLeaves, if_neg (by rw [unhide HOK]; decide)] at h1
            rw [← unhide HL]
            simpa using h1
          have h01 : ((L : Int) == 0) = true := by rw [h00]; rfl
          go_wp2_with fail
          refine (c_alive _).mono ?_
          rintro e w5 ⟨rfl, hb⟩
          go_wp2
          go_ret
          exact ⟨rfl, bnext B hb⟩
        | true =>
          have hr : leavesRight rs y (l2.map LfV.leaf) = true := by rw [unhide E2]; exact makeLeaves_right (unhide HOK)
          have HR := hide hr
          clear hr
          go_wp2_with fail
          refine (c_leavesRight A1 _ c1 rs y A2 _ c2 l2 _ hbR LX (by omega)).mono ?_
          rintro e w5 ⟨he, hb⟩
          rw [unhide HR] at he
          subst he
          go_wp2
          go_ret
          exact ⟨rfl, bnext B hb⟩
end Go.Proofs.Ytfflnkkhemaanaa
