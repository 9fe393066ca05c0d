/- The walk of the law FnLeavesPlain: for every code it returns true and changes nothing that was there. No condition. -/
import Derived.Test.YtfflnkkhemaanaaMake
import Derived.Test.YtfflnkkhemaanaaMake2
import Derived.Test.YtfflnkkhemaanaaMakeR
import Derived.Test.YtfflnkkhemaanaaPlainP
import Derived.Test.YtfflnkkhemaanaaDrawMake
import Derived.Test.YtfflnkkhemaanaaAlive
import Derived.BigQuiet
namespace Go.Proofs.Ytfflnkkhemaanaa
open Go.RowKit
set_option linter.unusedVariables false

set_option maxRecDepth 100000 in
set_option maxHeartbeats 1600000 in
theorem w_FnLeavesPlain (A : Option Addr) (n c : Nat) (xs : List Int) (w : World) (h : CodeAt w A n c xs) :
    Calls Try.prog 5 #[.slice A n c] w fun e w' => e = .returned (.bool true) ∧ Below w.heap.size w w' := by
  have hcm := h.2
  unfold maxLen at hcm
  by_cases hbig : 1048576 < n
  · go_enter Try.func5, Try.ntmps5
    go_wp2
    go_ret
    exact ⟨rfl, Below.refl _ _⟩
  · go_enter Try.func5, Try.ntmps5
    go_wp2_with fail
    refine (c_drawMakeLeaves A n c xs _ h).mono ?_
    rintro e w1 ⟨A1, c1, rs, y, rfl, hl1, ⟨hy0, hy1⟩, R0, B⟩
    have R := R0.at_
    have hbdR := R.bd
    clear hbig hcm h R0
    obtain ⟨ok, HOK⟩ : ∃ ok, Hid (makeOk rs y = ok) := ⟨_, rfl⟩
    go_wp2_with fail
    refine (c_makeLeaves A1 _ c1 rs y _ R).mono ?_
    rintro e w2 ⟨A2, c2, l2, he, e2, X, hb⟩
    rw [unhide HOK] at he
    subst he
    replace B := bnext B hb
    replace R := R.next hb
    have E2 := hide e2
    have hl2 := lfs_len e2
    have hbX := X.at_.bd
    clear hb e2 X
    go_wp2_with fail
    refine (c_makeLeaves' A1 _ c1 rs y _ R).mono ?_
    rintro e w3 ⟨A3, c3, l3, he, e3, Y, hb⟩
    rw [unhide HOK] at he
    subst he
    replace B := bnext B hb
    replace R := R.next hb
    have hee : l2.map LfV.leaf = l3.map LfV.leaf := (unhide E2).trans e3.symm
    have hbY := Y.at_.bd
    have hll : l2.length = l3.length := by have := congrArg List.length hee; simpa using this
    rw [← hll] at hbY ⊢
    have hok : (ok != ok) = false := by simp
    obtain ⟨L2, HL2⟩ : ∃ L, Hid (l2.length = L) := ⟨_, rfl⟩
    rw [unhide HL2] at hl2 hbX hbY ⊢
    clear hb e3 hee hll Y HL2 E2
    have O0 : OwnR (w3.alloc (.cells #[] 48)) w3.heap.size (some ⟨w3.heap.size, 0, none⟩) 0 [] := World.ownsRow_made w3 #[] 0 (Nat.le_refl _) (Nat.zero_le _) rfl
    have B0 := bof w3 (.cells #[] 48)
    go_wp2_with fail
    go_loopw [9, 10] (fun v i wr => ∃ (AP : Option Addr) (cP : Nat) (pl : List Row), pl.length ≤ rs.length ∧ i = .int .i64 pl.length ∧ v = .slice AP pl.length cP ∧ Hid (pl = (rs.take pl.length).map plainRow) ∧ OwnR wr w3.heap.size AP cP pl ∧ Below w3.heap.size w3 wr) (fun _ i _ => rs.length - (intOf i).toNat)
    case atStart => exact ⟨_, _, [], Nat.zero_le _, rfl, rfl, (show _ = _ by simp), O0, B0⟩
    case round =>
      clear O0 B0
      obtain ⟨AP, cP, pl, hk, rfl, rfl, hpl, I, B1⟩ := hrel
      have hbs := B1.size
      by_cases hlt : pl.length < rs.length
      · obtain ⟨b, off, r, rfl, hbl, hx, q0, q1, q2, q3⟩ := (R.next B1).at_ hlt
        have hpl2 : pl ++ [plainRow r] = (rs.take (pl ++ [plainRow r]).length).map plainRow := by
          rw [List.length_append, List.length_singleton, take_snoc' hx, List.map_append, ← unhide hpl]; rfl
        have HPL := hide hpl2
        clear hpl hpl2 hx
        go_wp2_with (at_builtin; refine wpList_push_rows (w0 := w3) (plainRow r) rfl rfl I rfl rfl (by omega) hbs ?_; intro A6 c6 w6 O6 hg6 hpre; have B6 : Below w3.heap.size w3 w6 := b_own (bmk B1 _) hpre (Nat.le_refl _) hg6; clear hg6 hpre I B1 hbs)
        go_roundw
        case rel => exact ⟨A6, c6, pl ++ [plainRow r], by simp; omega, by simp, by simp, HPL, O6, B6⟩
        case measure => simp [intOf]; omega
      · have hpe : pl = rs.map plainRow := by have := unhide hpl; rwa [List.take_of_length_le (by omega)] at this
        have hPl : Pl pl := by rw [hpe]; exact pl_map rs
        obtain ⟨hk1, hk2⟩ := plain_make hPl y
        have P := I.at_
        replace B := bnext B B1
        have hbdP := P.bd
        have HK1 := hide hk1
        have HK2 := hide hk2
        clear hpe hPl hk1 hk2 hpl I B1 hbs R
        obtain ⟨ok2, HOK2⟩ : ∃ ok, Hid (makeOk pl y = ok) := ⟨_, rfl⟩
        rw [unhide HOK2] at HK1
        go_wp2_with fail
        refine (c_makeLeaves AP _ cP pl y _ P).mono ?_
        rintro e w4 ⟨A4, c4, l4, he, e4, X, hb⟩
        rw [unhide HOK2] at he
        subst he
        replace B := bnext B hb
        replace P := P.next hb
        have E4 := hide e4
        have hl4 := lfs_len e4
        clear hb e4
        go_wp2_with fail
        refine (c_firstPages AP _ cP pl y _ P).mono ?_
        rintro e w5 ⟨A5, c5, he, Y, hb⟩
        rw [← unhide HK1] at he
        subst he
        replace B := bnext B hb
        have LX := (X.next hb).at_
        have LY := Y.at_
        obtain ⟨ys, HYS⟩ : ∃ ys, Hid (firstPages pl y = ys) := ⟨_, rfl⟩
        rw [unhide HYS] at LY ⊢
        have hbb : l4.map (fun l => bare l.leaf) = ys.map fun t => (t, 0, []) := by
          have h1 := unhide HK2
          rw [← unhide E4, List.map_map, unhide HYS] at h1
          exact h1
        have hll : ys.length = l4.length := by have := congrArg List.length hbb; simpa using this.symm
        have HBB := hide hbb
        rw [hll] at LY ⊢
        have hbX := LX.bd
        have hbY := LY.bd
        obtain ⟨L, HL⟩ : ∃ L, Hid (l4.length = L) := ⟨_, rfl⟩
        rw [unhide HL] at hl4 hbX hbY LX LY ⊢
        have hok2 : (ok2 != ok2) = false := by simp
        clear hb hbb hll X Y P HK1 HK2 E4
        go_wp2_with fail
        go_loopw [15] (fun i wr => ∃ k : Nat, k ≤ L ∧ i = .int .i64 k ∧ Below w5.heap.size w5 wr) (fun i _ => L - (intOf i).toNat)
        case atStart => exact ⟨0, Nat.zero_le _, rfl, Below.refl _ _⟩
        case round =>
          obtain ⟨k, hk, rfl, hbel⟩ := hrel
          by_cases hlt2 : k < L
          · obtain ⟨b, off, ⟨x, t, z, P1, d1, fs⟩, rfl, hb, hx, hf, p0, p1, p2, p3⟩ := (LX.next hbel).at_ hlt2
            obtain ⟨b', off', t', rfl, hb', hx', q0⟩ := (LY.next hbel).at_ hlt2
            have e : (t, z, fs) = (t', (0 : Int), ([] : List Int)) := by
              have e1 : (l4.map (fun l => bare l.leaf))[k]? = some (t, z, fs) := by rw [List.getElem?_map, hx]; rfl
              have e2 : (ys.map fun t => (t, (0 : Int), ([] : List Int)))[k]? = some (t', 0, []) := by rw [List.getElem?_map, hx']; rfl
              rw [unhide HBB, e2] at e1
              exact (Option.some.inj e1).symm
            injection e with e1 e2
            injection e2 with e2 e3
            subst e1 e2 e3
            dsimp only [List.length_nil] at p0 p1 p2 p3 q0
            have htt : (t != t) = false := by simp
            clear hx hx' hf
            go_wp2_with fail
            go_quiet (fail)
            go_wp2
            go_roundw
            case rel => exact ⟨k + 1, by omega, by go_num, bdrewN hbel _⟩
            case measure => simp [intOf]; omega
          · replace B := bnext B hbel
            go_wp2_with fail
            refine (c_alive _).mono ?_
            rintro e w7 ⟨rfl, hb⟩
            go_wp2
            go_ret
            exact ⟨rfl, bnext B hb⟩
end Go.Proofs.Ytfflnkkhemaanaa
