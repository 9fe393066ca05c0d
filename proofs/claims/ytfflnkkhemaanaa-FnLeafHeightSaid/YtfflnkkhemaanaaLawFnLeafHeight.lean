/- The walk of the law FnLeafHeight: for every code it returns true and changes nothing that was there. No condition. -/
import Derived.Test.YtfflnkkhemaanaaDrawLeaf
import Derived.Test.YtfflnkkhemaanaaLeafH
import Derived.Test.YtfflnkkhemaanaaHeights
import Derived.Test.YtfflnkkhemaanaaRightP
import Derived.Test.YtfflnkkhemaanaaAlive
import Derived.Deep.DeepCutAuto
namespace Go.Proofs.Ytfflnkkhemaanaa
open Go.RowKit
set_option linter.unusedVariables false

theorem lh_neg {rs : List Row} {l : Leaf} (h : leafHeight rs l < 0) : leafHeight rs l = -1 := by
  unfold leafHeight at h ⊢
  split
  · rename_i hc
    rw [if_pos hc] at h
    simp only [leafOk, Bool.and_eq_true, inB_iff] at hc
    obtain ⟨⟨h1, _, _, h4, _⟩, _⟩ := hc
    obtain ⟨hv, hl⟩ := rowsValid_iff.1 h1
    have := (seg_bd hv hl l.from_.toNat l.to_.toNat).1
    have := (figsF_bd hv l.figs).1
    omega
  · rfl
theorem lh_le (rs : List Row) (l : Leaf) : leafHeight rs l ≤ 1100000 := by
  unfold leafHeight
  split
  · rename_i hc
    simp only [leafOk, Bool.and_eq_true, decide_eq_true_eq, inB_iff] at hc
    obtain ⟨⟨h1, _, _, h4, h5⟩, _⟩ := hc
    obtain ⟨hv, hl⟩ := rowsValid_iff.1 h1
    have := (seg_bd hv hl l.from_.toNat l.to_.toNat).2
    have := (figsF_bd hv l.figs).2
    omega
  · omega
theorem lh_plain {rs : List Row} {x y z : Int} {fs : List Int} (h : 0 ≤ leafHeight rs ⟨x, y, z, fs⟩) : leafHeight rs ⟨x, y, 0, []⟩ = seg rs x.toNat y.toNat := by
  obtain ⟨⟨h1, h2, h3, h4, h5⟩, _⟩ := lh_ge h
  dsimp only at h2 h3 h4
  rw [lh_yes]
  · simp [figsF_nil]
  · simp only [leafOk, Bool.and_eq_true, inB_iff, h1, true_and, figsIn, List.all_nil, List.length_nil]
    exact ⟨⟨h2, h3, by omega, rfl⟩, trivial⟩
theorem lh_more {rs : List Row} {x y z : Int} {fs : List Int} (h : 0 ≤ leafHeight rs ⟨x, y, z, fs⟩) (hz : z ≠ 1000000) : leafHeight rs ⟨x, y, z + 1, fs⟩ = leafHeight rs ⟨x, y, z, fs⟩ + 1 := by
  obtain ⟨⟨h1, h2, h3, h4, h5⟩, h6⟩ := lh_ge h
  dsimp only at h2 h3 h4 h5 h6
  rw [lh_yes, lh_yes]
  · omega
  · simp only [leafOk, Bool.and_eq_true, inB_iff, h1, true_and, h6]
    exact ⟨⟨h2, h3, h4, decide_eq_true h5⟩, trivial⟩
  · simp only [leafOk, Bool.and_eq_true, inB_iff, h1, true_and, h6]
    exact ⟨⟨h2, h3, by omega, decide_eq_true h5⟩, trivial⟩

set_option maxRecDepth 100000 in
set_option maxHeartbeats 4000000 in
theorem w_FnLeafHeight (A : Option Addr) (n c : Nat) (xs : List Int) (w : World) (h : CodeAt w A n c xs) :
    Calls Try.prog 3 #[.slice A n c] w fun e w' => e = .returned (.bool true) ∧ Below w.heap.size w w' := by
  have hcm := h.2
  unfold maxLen at hcm
  by_cases hbig : 1048576 < n
  · go_enter Try.func3, Try.ntmps3
    go_wp2
    go_ret
    exact ⟨rfl, Below.refl _ _⟩
  · go_enter Try.func3, Try.ntmps3
    go_wp2_with fail
    refine (c_drawLeafHeight A n c xs _ h).mono ?_
    rintro e w1 ⟨A1, c1, rs, x, y, z, A2, c2, fs, rfl, hl1, hl2, ⟨hz0, hz1, hz⟩, R, F, B⟩
    have hbdR := R.bd
    have hbdF := F.bd
    clear hbig hcm h
    have p := Blk.new w1 26 #[.int .i64 x, .int .i64 y, .int .i64 z, .slice A2 fs.length c2]
    replace B := bmk B (.cells #[.int .i64 x, .int .i64 y, .int .i64 z, .slice A2 fs.length c2] 26)
    replace R := R.next (bof w1 (.cells #[.int .i64 x, .int .i64 y, .int .i64 z, .slice A2 fs.length c2] 26))
    replace F := F.next (bof w1 (.cells #[.int .i64 x, .int .i64 y, .int .i64 z, .slice A2 fs.length c2] 26))
    obtain ⟨v, HV⟩ : ∃ v, Hid (leafHeight rs ⟨x, y, z, fs⟩ = v) := ⟨_, rfl⟩
    have hvle : v ≤ 1100000 := by rw [← unhide HV]; exact lh_le _ _
    obtain ⟨b4, HB4⟩ : ∃ b4, Hid (w1.heap.size = b4) := ⟨_, rfl⟩
    go_wp2_with fail
    refine (c_leafHeight A1 _ c1 rs x y z A2 _ c2 fs _ R F).mono ?_
    rintro e w2 ⟨he, hb⟩
    rw [unhide HV] at he
    subst he
    rw [unhide HB4] at p ⊢
    replace p := p.next hb
    replace B := bnext B hb
    replace R := R.next hb
    replace F := F.next hb
    clear hb HB4
    have q0 : w2.cell? ⟨b4, 0, none⟩ = some (.int .i64 x) := p.cell 0
    have q1 : w2.cell? ⟨b4, 1, none⟩ = some (.int .i64 y) := p.cell 1
    have q2 : w2.cell? ⟨b4, 2, none⟩ = some (.int .i64 z) := p.cell 2
    have q3 : w2.cell? ⟨b4, 3, none⟩ = some (.slice A2 fs.length c2) := p.cell 3
    go_wp2_with fail
    refine (c_leafHeight' A1 _ c1 rs x y z A2 _ c2 fs _ R F).mono ?_
    rintro e w3 ⟨he, hb⟩
    rw [unhide HV] at he
    subst he
    replace p := p.next hb
    replace B := bnext B hb
    replace R := R.next hb
    replace F := F.next hb
    clear hb q0 q1 q2 q3
    have hvv : (v != v) = false := by simp
    by_cases hv0 : v < 0
    · have hv1 : v = -1 := by have := lh_neg (rs := rs) (l := ⟨x, y, z, fs⟩) (by rw [unhide HV]; exact hv0); rw [← unhide HV]; exact this
      subst hv1
      go_wp2_with fail
      refine (c_alive _).mono ?_
      rintro e w4 ⟨rfl, hb⟩
      go_wp2
      go_ret
      exact ⟨rfl, bnext B hb⟩
    · have hge : 0 ≤ leafHeight rs ⟨x, y, z, fs⟩ := by rw [unhide HV]; omega
      have hpl := lh_plain hge
      have hmo := fun hz => lh_more hge hz
      obtain ⟨⟨hrv, ⟨hy0, hy1⟩, ⟨hx0, hx1⟩, _, _⟩, _⟩ := lh_ge hge
      dsimp only at hy0 hy1 hx0 hx1
      obtain ⟨a, rfl⟩ := Int.eq_ofNat_of_zero_le hx0
      obtain ⟨t, rfl⟩ := Int.eq_ofNat_of_zero_le hy0
      rw [Int.toNat_natCast, Int.toNat_natCast] at hpl
      have hat : a ≤ t := by omega
      have htn : t ≤ rs.length := by omega
      have hhs : heightOf ((rs.drop a).take (t - a)) = seg rs a t := by
        obtain ⟨h1, h2⟩ := rowsValid_iff.1 hrv
        rw [heightOf, if_pos (sub_valid h1 h2 a (t - a))]; rfl
      obtain ⟨sg, HS⟩ : ∃ sg, Hid (seg rs a t = sg) := ⟨_, rfl⟩
      rw [unhide HS] at hpl hhs
      rw [unhide HV] at hmo
      have HPL := hide hpl
      have HHS := hide hhs
      have HMO := hide hmo
      clear hge hpl hhs hmo hrv hx0 hx1 hy0 hy1
      have q0 : w3.cell? ⟨b4, 0, none⟩ = some (.int .i64 a) := p.cell 0
      have q1 : w3.cell? ⟨b4, 1, none⟩ = some (.int .i64 t) := p.cell 1
      have q2 : w3.cell? ⟨b4, 2, none⟩ = some (.int .i64 z) := p.cell 2
      have q3 : w3.cell? ⟨b4, 3, none⟩ = some (.slice A2 fs.length c2) := p.cell 3
      have hb43 := p.lt
      have h0a : (0 : Int) ≤ (a : Int) := by omega
      go_upto_region 12 with fail
      obtain ⟨b6, HB6⟩ : ∃ b6, Hid (w3.heap.size = b6) := ⟨_, rfl⟩
      obtain ⟨b7, HB7⟩ : ∃ b7, Hid (w3.heap.size + 1 = b7) := ⟨_, rfl⟩
      have p6 := (Blk.new w3 26 #[.int .i64 a, .int .i64 t, .int .i64 0, .slice none 0 0]).alloc (.cells #[.int .i64 a, .int .i64 t, .int .i64 (z + 1), .slice A2 fs.length c2] 26)
      have p7 := Blk.new (w3.alloc (.cells #[.int .i64 a, .int .i64 t, .int .i64 0, .slice none 0 0] 26)) 26 #[.int .i64 a, .int .i64 t, .int .i64 (z + 1), .slice A2 fs.length c2]
      replace p := (p.alloc (.cells #[.int .i64 a, .int .i64 t, .int .i64 0, .slice none 0 0] 26)).alloc (.cells #[.int .i64 a, .int .i64 t, .int .i64 (z + 1), .slice A2 fs.length c2] 26)
      have BP := bmk (bmk B (.cells #[.int .i64 a, .int .i64 t, .int .i64 0, .slice none 0 0] 26)) (.cells #[.int .i64 a, .int .i64 t, .int .i64 (z + 1), .slice A2 fs.length c2] 26)
      have R0 := (R.next (bof w3 (.cells #[.int .i64 a, .int .i64 t, .int .i64 0, .slice none 0 0] 26))).next (bof _ (.cells #[.int .i64 a, .int .i64 t, .int .i64 (z + 1), .slice A2 fs.length c2] 26))
      have F0 := (F.next (bof w3 (.cells #[.int .i64 a, .int .i64 t, .int .i64 0, .slice none 0 0] 26))).next (bof _ (.cells #[.int .i64 a, .int .i64 t, .int .i64 (z + 1), .slice A2 fs.length c2] 26))
      simp only [size_alloc'] at p7
      rw [unhide HB6] at p6
      rw [unhide HB7] at p7
      rw [unhide HB7, unhide HB6]
      clear q0 q1 q2 q3 R F B
      generalize (w3.alloc (.cells #[.int .i64 a, .int .i64 t, .int .i64 0, .slice none 0 0] 26)).alloc (.cells #[.int .i64 a, .int .i64 t, .int .i64 (z + 1), .slice A2 fs.length c2] 26) = wP at p p6 p7 BP R0 F0 ⊢
      have s0 : wP.cell? ⟨b4, 0, none⟩ = some (.int .i64 a) := p.cell 0
      have s1 : wP.cell? ⟨b4, 1, none⟩ = some (.int .i64 t) := p.cell 1
      have s2 : wP.cell? ⟨b4, 2, none⟩ = some (.int .i64 z) := p.cell 2
      have s3 : wP.cell? ⟨b6, 0, none⟩ = some (.int .i64 a) := p6.cell 0
      have s4 : wP.cell? ⟨b6, 1, none⟩ = some (.int .i64 t) := p6.cell 1
      have s5 : wP.cell? ⟨b6, 2, none⟩ = some (.int .i64 0) := p6.cell 2
      have s6 : wP.cell? ⟨b6, 3, none⟩ = some (.slice none 0 0) := p6.cell 3
      have s7 : wP.cell? ⟨b7, 0, none⟩ = some (.int .i64 a) := p7.cell 0
      have s8 : wP.cell? ⟨b7, 1, none⟩ = some (.int .i64 t) := p7.cell 1
      have s9 : wP.cell? ⟨b7, 2, none⟩ = some (.int .i64 (z + 1)) := p7.cell 2
      have s10 : wP.cell? ⟨b7, 3, none⟩ = some (.slice A2 fs.length c2) := p7.cell 3
      obtain ⟨AM, RM, hsl0⟩ := rows_mid R0 hat htn
      have hsl := fun wx => hsl0 wx
      clear hsl0
      have hzz : (z == 1000000) = false := by simp [hz]
      go_region_held3 (fun w' => w'.cell? ⟨b4, 0, none⟩ = some (.int .i64 a) ∧ w'.cell? ⟨b4, 1, none⟩ = some (.int .i64 t) ∧ w'.cell? ⟨b4, 2, none⟩ = some (.int .i64 z) ∧ w'.cell? ⟨b6, 0, none⟩ = some (.int .i64 a) ∧ w'.cell? ⟨b6, 1, none⟩ = some (.int .i64 t) ∧ w'.cell? ⟨b6, 2, none⟩ = some (.int .i64 0) ∧ w'.cell? ⟨b6, 3, none⟩ = some (.slice none 0 0) ∧ w'.cell? ⟨b7, 0, none⟩ = some (.int .i64 a) ∧ w'.cell? ⟨b7, 1, none⟩ = some (.int .i64 t) ∧ w'.cell? ⟨b7, 2, none⟩ = some (.int .i64 (z + 1)) ∧ w'.cell? ⟨b7, 3, none⟩ = some (.slice A2 fs.length c2))
        (first | go_keep | exact ⟨(p.drew.next hbL).cell 0, (p.drew.next hbL).cell 1, (p.drew.next hbL).cell 2, (p6.drew.next hbL).cell 0, (p6.drew.next hbL).cell 1, (p6.drew.next hbL).cell 2, (p6.drew.next hbL).cell 3, (p7.drew.next hbL).cell 0, (p7.drew.next hbL).cell 1, (p7.drew.next hbL).cell 2, (p7.drew.next hbL).cell 3⟩ | exact ⟨(p.drew.next hbH).cell 0, (p.drew.next hbH).cell 1, (p.drew.next hbH).cell 2, (p6.drew.next hbH).cell 0, (p6.drew.next hbH).cell 1, (p6.drew.next hbH).cell 2, (p6.drew.next hbH).cell 3, (p7.drew.next hbH).cell 0, (p7.drew.next hbH).cell 1, (p7.drew.next hbH).cell 2, (p7.drew.next hbH).cell 3⟩ | exact ⟨((p.drew.next hbL).next hbH).cell 0, ((p.drew.next hbL).next hbH).cell 1, ((p.drew.next hbL).next hbH).cell 2, ((p6.drew.next hbL).next hbH).cell 0, ((p6.drew.next hbL).next hbH).cell 1, ((p6.drew.next hbL).next hbH).cell 2, ((p6.drew.next hbL).next hbH).cell 3, ((p7.drew.next hbL).next hbH).cell 0, ((p7.drew.next hbL).next hbH).cell 1, ((p7.drew.next hbL).next hbH).cell 2, ((p7.drew.next hbL).next hbH).cell 3⟩ | exact ⟨((p.drew.next hbH).next hbL).cell 0, ((p.drew.next hbH).next hbL).cell 1, ((p.drew.next hbH).next hbL).cell 2, ((p6.drew.next hbH).next hbL).cell 0, ((p6.drew.next hbH).next hbL).cell 1, ((p6.drew.next hbH).next hbL).cell 2, ((p6.drew.next hbH).next hbL).cell 3, ((p7.drew.next hbH).next hbL).cell 0, ((p7.drew.next hbH).next hbL).cell 1, ((p7.drew.next hbH).next hbL).cell 2, ((p7.drew.next hbH).next hbL).cell 3⟩ | exact ⟨(((p.drew.next hbL).next hbH).next hbM).cell 0, (((p.drew.next hbL).next hbH).next hbM).cell 1, (((p.drew.next hbL).next hbH).next hbM).cell 2, (((p6.drew.next hbL).next hbH).next hbM).cell 0, (((p6.drew.next hbL).next hbH).next hbM).cell 1, (((p6.drew.next hbL).next hbH).next hbM).cell 2, (((p6.drew.next hbL).next hbH).next hbM).cell 3, (((p7.drew.next hbL).next hbH).next hbM).cell 0, (((p7.drew.next hbL).next hbH).next hbM).cell 1, (((p7.drew.next hbL).next hbH).next hbM).cell 2, (((p7.drew.next hbL).next hbH).next hbM).cell 3⟩ | exact ⟨(((p.drew.next hbH).next hbL).next hbM).cell 0, (((p.drew.next hbH).next hbL).next hbM).cell 1, (((p.drew.next hbH).next hbL).next hbM).cell 2, (((p6.drew.next hbH).next hbL).next hbM).cell 0, (((p6.drew.next hbH).next hbL).next hbM).cell 1, (((p6.drew.next hbH).next hbL).next hbM).cell 2, (((p6.drew.next hbH).next hbL).next hbM).cell 3, (((p7.drew.next hbH).next hbL).next hbM).cell 0, (((p7.drew.next hbH).next hbL).next hbM).cell 1, (((p7.drew.next hbH).next hbL).next hbM).cell 2, (((p7.drew.next hbH).next hbL).next hbM).cell 3⟩)
        ((first
      | (go_at_call_of 11 (Value.agg #[.int .i64 a, .int .i64 t, .int .i64 0, .slice none 0 0]); refine (c_leafHeight A1 _ c1 rs a t 0 none 0 0 [] _ (by first | exact R0.next (Below.refl _ _).drew | exact (R0.next (Below.refl _ _).drew).next hbH) (IntsAt.nil _ _ _ (by omega))).mono ?_; rintro e wL ⟨he, hbL⟩; rw [unhide HPL] at he; subst he)
      | (go_at_call 14; refine (c_heightOf AM _ _ _ _ (by first | exact RM.next (Below.refl _ _).drew | exact (RM.next (Below.refl _ _).drew).next hbL)).mono ?_; rintro e wH ⟨he, hbH⟩; rw [unhide HHS] at he; subst he)
      | (go_at_call 11; refine (c_leafHeight A1 _ c1 rs a t (z + 1) A2 _ c2 fs _ (by first | exact ((R0.next (Below.refl _ _).drew).next hbL).next hbH | exact ((R0.next (Below.refl _ _).drew).next hbH).next hbL) (by first | exact ((F0.next (Below.refl _ _).drew).next hbL).next hbH | exact ((F0.next (Below.refl _ _).drew).next hbH).next hbL)).mono ?_; rintro e wM ⟨he, hbM⟩; rw [unhide HMO hz] at he; subst he)))
      all_goals
        first
          | replace BP := bnext (bnext (bnext BP.drew hbL) hbH) hbM
          | replace BP := bnext (bnext (bnext BP.drew hbH) hbL) hbM
          | replace BP := bnext (bnext BP.drew hbL) hbH
          | replace BP := bnext (bnext BP.drew hbH) hbL
        try simp only [show IntKind.i64.wrap (v + 1) = v + 1 from IntWalk.i64_in _ (by omega)]
        go_wp2
        go_ret
        exact ⟨by simp, BP⟩
end Go.Proofs.Ytfflnkkhemaanaa
