/- The walk of the law FnExactLeavesRight: it returns true, whatever comes in, and changes nothing that was there. No condition. -/
import Derived.Test.YtfflnkkhemaanaaRight2
namespace Go.Proofs.Ytfflnkkhemaanaa
open Go.RowKit
set_option linter.unusedVariables false

theorem figCount_nonneg : ∀ ls : List LfV, 0 ≤ figCount ls
  | [] => by simp [figCount]
  | l :: t => by
    have := figCount_nonneg t
    have e : figCount (l :: t) = (l.figs.length : Int) + figCount t := by simp [figCount]
    omega
theorem figCount_mem : ∀ {ls : List LfV} {l : LfV}, l ∈ ls → (l.figs.length : Int) ≤ figCount ls
  | m :: t, l, h => by
    have e : figCount (m :: t) = (m.figs.length : Int) + figCount t := by simp [figCount]
    rcases List.mem_cons.1 h with rfl | h
    · have := figCount_nonneg t; omega
    · have := figCount_mem h; omega
set_option maxHeartbeats 1000000 in
theorem w_FnExactLeavesRight (a0 : Option Addr) (len0 cap0 : Nat) (x0 : List Row) (x1 : Int) (a2 : Option Addr) (len2 cap2 : Nat) (x2 : List LfV) (w : World) (h0 : RowsAt w a0 len0 cap0 x0) (l1 : -9223372036854775808 ≤ x1) (g1 : x1 ≤ 9223372036854775807) (h2 : LeavesAt w a2 len2 cap2 x2) :
    Calls Try.prog 7 #[.slice a0 len0 cap0, .int .i64 x1, .slice a2 len2 cap2] w fun e w' => e = .returned (.bool true) ∧ Below w.heap.size w w' := by
  have l0 := h0.len
  have bd0 := h0.bd
  have l2 := h2.len
  have bd2 := h2.bd
  by_cases big0 : 1048576 < (len0 : Int)
  · go_enter Try.func7, Try.ntmps7
    go_wp2_with fail
    refine (c_szRowS_big a0 len0 cap0 _ _ (by omega) (by omega) (by omega)).mono ?_
    rintro e w1 ⟨rfl, rfl⟩
    go_wp2
    go_ret
    exact ⟨rfl, Below.refl _ _⟩
  go_enter Try.func7, Try.ntmps7
  go_wp2_with fail
  refine (c_szRowS_ok a0 len0 cap0 _ _ (by omega) (by omega)).mono ?_
  rintro e w1 ⟨rfl, rfl⟩
  go_wp2_with fail
  refine (c_szLeafS a2 len2 cap2 x2 _ _ h2 (by omega)).mono ?_
  rintro e w1 ⟨r, rfl, hr, B⟩
  rcases hr with rfl | ⟨hr0, hr1⟩
  · go_wp2
    go_ret
    exact ⟨rfl, B⟩
  have hfn : ∀ l ∈ x2, l.figs.length ≤ 16777216 := fun l hl => by have := figCount_mem hl; omega
  have hm : len2 ≤ 1048576 := by have := figCount_nonneg x2; omega
  have HFN := hide hfn
  clear hfn hr1
  subst l0
  go_wp2_with fail
  refine (c_toRowS a0 _ cap0 x0 _ (h0.below (Nat.le_refl _) B) (by omega)).mono ?_
  rintro e w2 ⟨AS, cS, rfl, S, hb⟩
  replace B := bnext B hb
  clear hb
  go_wp2_with fail
  refine (c_toLeafS a2 len2 cap2 x2 _ (h2.below (Nat.le_refl _) B) (by omega) (unhide HFN)).mono ?_
  rintro e w3 ⟨AL, cL, lL, rfl, eL, L, hb⟩
  replace B := bnext B hb
  replace S := S.next hb
  have EL := hide eL
  clear hb eL
  go_wp2_with fail
  refine (c_leavesRight' AS _ cS x0 x1 AL len2 cL lL _ S.at_ L (by omega)).mono ?_
  rintro e w4 ⟨he, hb⟩
  rw [unhide EL] at he
  subst he
  replace B := bnext B hb
  clear hb S L EL
  go_wp2_with fail
  refine (c_toRowS a0 _ cap0 x0 _ (h0.below (Nat.le_refl _) B) (by omega)).mono ?_
  rintro e w5 ⟨AX, cX, rfl, X, hb⟩
  replace B := bnext B hb
  clear hb
  go_wp2_with fail
  refine (c_toLeafS a2 len2 cap2 x2 _ (h2.below (Nat.le_refl _) B) (by omega) (unhide HFN)).mono ?_
  rintro e w6 ⟨AL, cL, lL, rfl, eL, L, hb⟩
  replace B := bnext B hb
  replace X := X.next hb
  have EL := hide eL
  clear hb eL
  go_wp2_with fail
  refine (c_leavesRight AX _ cX x0 x1 AL len2 cL lL _ X.at_ L (by omega)).mono ?_
  rintro e w7 ⟨he, hb⟩
  rw [unhide EL] at he
  subst he
  replace B := bnext B hb
  replace X := X.next hb
  replace L := L.next hb
  clear hb
  obtain ⟨res, hres⟩ : ∃ res, res = leavesRight x0 x1 (x2.map LfV.leaf) := ⟨_, rfl⟩
  rw [← hres]
  clear hres
  have hrr : (res != res) = false := by simp
  go_wp2_with fail
  refine (c_toRowS a0 _ cap0 x0 _ (h0.below (Nat.le_refl _) B) (by omega)).mono ?_
  rintro e w8 ⟨AT, cT, rfl, T0, hb⟩
  replace B := bnext B hb
  replace X := X.next hb
  replace L := L.next hb
  clear hb hrr
  go_wp2_with fail
  refine (c_eqRowS_same _ _ _ _ _ _ x0 _ X.at_ T0.at_).mono ?_
  rintro e w9 ⟨rfl, hb⟩
  replace B := bnext B hb
  replace L := L.next hb
  clear hb X T0
  go_wp2_with fail
  refine (c_toLeafS a2 len2 cap2 x2 _ (h2.below (Nat.le_refl _) B) (by omega) (unhide HFN)).mono ?_
  rintro e w10 ⟨AM, cM, lM, rfl, eM, M, hb⟩
  replace B := bnext B hb
  replace L := L.next hb
  have EM := hide eM
  clear hb eM
  go_wp2_with fail
  refine (c_eqLeafS_same _ _ _ _ _ _ lL lM _ L M (by rw [unhide EL, unhide EM])).mono ?_
  rintro e w11 ⟨rfl, hb⟩
  replace B := bnext B hb
  clear hb L M
  go_wp2
  go_ret
  exact ⟨rfl, B⟩
end Go.Proofs.Ytfflnkkhemaanaa
