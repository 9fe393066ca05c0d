/- The walk of the law FnSetLine: for every code it returns true and changes nothing that was there. No condition. -/
import Derived.Test.YtlklkloadefihaaFullQ
import Derived.Test.YtlklkloadefihaaDrawE
import Derived.Test.YtlklkloadefihaaMa
import Derived.BigQuiet
import Derived.Deep.QuietTactic
namespace Go.Proofs.Ytlklkloadefihaa
open Go.RowKit
set_option linter.unusedVariables false

set_option maxRecDepth 100000 in
set_option maxHeartbeats 6400000 in
theorem w_FnSetLine (A : Option Addr) (n c : Nat) (xs : List Int) (w : World) (h : CodeAt w A n c xs) :
    Calls Try.prog 7 #[.slice A n c] w fun e w' => e = .returned (.bool true) ∧ Below w.heap.size w w' := by
  have hcm := h.2
  unfold maxLen at hcm
  by_cases hbig : 1048576 < n
  · go_enter Try.func7, Try.ntmps7
    go_wp2
    go_ret
    exact ⟨rfl, Below.refl _ _⟩
  · go_enter Try.func7, Try.ntmps7
    go_wp2_with fail
    refine (c_drawSetLine A n c xs _ h).mono ?_
    rintro e w1 ⟨A1, c1, rs, a, t, y, rfl, hl1, R, B⟩
    have hbdR := R.at_.bd
    have RA := R.at_
    clear hbig hcm h R
    obtain ⟨ps, HP⟩ : ∃ ps, Hid (setPs rs a t y = ps) := ⟨_, rfl⟩
    obtain ⟨x, HX⟩ : ∃ x, Hid (setX rs a t y = x) := ⟨_, rfl⟩
    obtain ⟨ok, HK⟩ : ∃ ok, Hid (okS rs a t y = ok) := ⟨_, rfl⟩
    obtain ⟨bad, st, HB⟩ : ∃ bad st, Hid (lineBad rs a t y = (bad, st)) := ⟨_, _, rfl⟩
    have hpl : ps.length ≤ rs.length := by rw [← unhide HP]; exact setPs_len rs a t y
    have HNOT : Hid (ok = false → ps = [] ∧ x = 0) := fun h => by
      rw [← unhide HP, ← unhide HX]; exact setPs_not (by rw [unhide HK]; exact h)
    have HSIDE : Hid (ok = true → (0 ≤ x ∧ x ≤ 100000) ∧ ∀ k p, ps[k]? = some p → SideAt rs ps x k p) := fun h => by
      rw [← unhide HP, ← unhide HX]
      exact ⟨setX_bd (by rw [unhide HK]; exact h), fun k p hp => setPs_sideAt (by rw [unhide HK]; exact h) hp⟩
    have HFULL : Hid (0 ≤ bad → bad ≠ 10000 → x = y) := fun h1 h2 => by
      rw [← unhide HX]; exact setX_full (unhide HB) h1 h2
    go_wp2_with fail
    refine (c_setLine A1 _ c1 rs a t y _ RA).mono ?_
    rintro e w2 ⟨A2, c2, he, P, hb⟩
    rw [unhide HP, unhide HX, unhide HK] at he
    rw [unhide HP] at P
    subst he
    replace B := bnext B hb
    replace RA := RA.next hb
    clear hb
    go_wp2_with fail
    refine (c_setLine' A1 _ c1 rs a t y _ RA).mono ?_
    rintro e w3 ⟨A3, c3, he, Q, hb⟩
    rw [unhide HP, unhide HX, unhide HK] at he
    rw [unhide HP] at Q
    subst he
    replace B := bnext B hb
    replace RA := RA.next hb
    have PA := P.at_.next hb
    have QA := Q.at_
    clear hb P Q HP HX HK
    have gx : (x != x) = false := by simp
    cases ok
    · obtain ⟨rfl, rfl⟩ := unhide HNOT rfl
      clear HNOT HSIDE HFULL HB PA QA RA
      go_wp2_with fail
      refine (c_alive _).mono ?_
      rintro e w9 ⟨rfl, hb⟩
      go_wp2
      go_ret
      exact ⟨rfl, bnext B hb⟩
    · have HS := hide (unhide HSIDE rfl).2
      have hxb := (unhide HSIDE rfl).1
      clear HNOT HSIDE
      go_wp2
      clear gx
      go_loopw [13] (fun i wr => ∃ k : Nat, k ≤ ps.length ∧ i = .int .i64 k ∧ ItemsAt wr A1 rs.length c1 rs ∧ PlacedAt wr A2 ps.length c2 ps ∧ PlacedAt wr A3 ps.length c3 ps ∧ Below w.heap.size w wr) (fun i _ => ps.length - (intOf i).toNat)
      case atStart => exact ⟨0, Nat.zero_le _, rfl, RA, PA, QA, B⟩
      case round =>
        clear RA PA QA B
        obtain ⟨k, hk, rfl, RA, PA, QA, B⟩ := hrel
        by_cases hlt : k < ps.length
        · obtain ⟨bP, oP, p, rfl, hbP, hp, p0, p1⟩ := PA.at_ hlt
          obtain ⟨bQ, oQ, p', rfl, hbQ, hq, q0, q1⟩ := QA.at_ hlt
          obtain rfl : p = p' := by rw [hp] at hq; exact Option.some.inj hq
          obtain ⟨⟨pa, pp⟩, hpe⟩ : ∃ q : Placed, q = p := ⟨_, rfl⟩
          subst hpe
          obtain ⟨s1, s2, s3, s4, s5⟩ := unhide HS k _ hp
          dsimp only at s1 s2 s3 s4 s5 p0 p1 q0 q1
          obtain ⟨j, rfl⟩ := Int.eq_ofNat_of_zero_le s1.1
          have hj : j < rs.length := by omega
          obtain ⟨bR, oR, r, rfl, hbR, hr, d0, d1, d2, d3, d4, d5, d6⟩ := RA.at_ hj
          rw [Int.toNat_natCast, itAt_of hr] at s3 s4 s5
          have hw : IntKind.i64.wrap (pp + r.w) = pp + r.w := IntWalk.i64_in _ (by omega)
          have g2 : decide ((rs.length : Int) ≤ (j : Int)) = false := decide_eq_false (by omega)
          have g3 : decide (pp < 0) = false := decide_eq_false (by omega)
          have g4 : decide (x < pp + r.w) = false := decide_eq_false (by omega)
          have hji : (j : Int) < (rs.length : Int) := by omega
          have HS5 := hide s5
          clear s5 hp hq hr d0 d2 d3 d4 d5 d6
          by_cases hn : k + 1 < ps.length
          · obtain ⟨bN, oN, q, e', _, hs, n0, n1⟩ := PA.at_ (k := k + 1) hn
            injection e' with e'
            injection e' with e1 e2 e3
            subst e1
            subst e2
            have h5 := unhide HS5 q hs
            have g5 : decide (q.place < pp + r.w) = false := decide_eq_false (by omega)
            have gn : decide ((k : Int) + 1 < (ps.length : Int)) = true := decide_eq_true (by omega)
            clear hs HS5 n0
            go_wp2
            go_quiet (fail)
            generalize hwq : World.drewN _ _ = wq
            have BQ : Below wr.heap.size wr wq := by rw [← hwq]; exact bdrewN (Below.refl _ _) _
            have HQC : Hid (∀ z, wq.cell? z = wr.cell? z) := fun z => by rw [← hwq]; rfl
            clear hwq
            replace p0 := (unhide HQC _).trans p0
            replace p1 := (unhide HQC _).trans p1
            replace d1 := (unhide HQC _).trans d1
            replace n1 := (unhide HQC _).trans n1
            replace B := bnext B BQ
            replace RA := RA.next BQ
            replace PA := PA.next BQ
            replace QA := QA.next BQ
            clear BQ HQC q0 q1
            go_wp2
            go_quiet (fail)
            generalize hwq : World.drewN _ _ = wq2
            have BQ : Below wq.heap.size wq wq2 := by rw [← hwq]; exact bdrewN (Below.refl _ _) _
            have HQC : Hid (∀ z, wq2.cell? z = wq.cell? z) := fun z => by rw [← hwq]; rfl
            clear hwq
            replace n1 := (unhide HQC _).trans n1
            clear HQC
            replace B := bnext B BQ
            replace RA := RA.next BQ
            replace PA := PA.next BQ
            replace QA := QA.next BQ
            clear BQ p0 p1 d1
            go_wp2
            go_roundw
            case rel => exact ⟨k + 1, by omega, by go_num, RA, PA, QA, B⟩
            case measure => simp [intOf]; omega
          · have gn : decide ((k : Int) + 1 < (ps.length : Int)) = false := decide_eq_false (by omega)
            clear HS5
            go_wp2
            go_quiet (fail)
            generalize hwq : World.drewN _ _ = wq
            have BQ : Below wr.heap.size wr wq := by rw [← hwq]; exact bdrewN (Below.refl _ _) _
            have HQC : Hid (∀ z, wq.cell? z = wr.cell? z) := fun z => by rw [← hwq]; rfl
            clear hwq
            replace p0 := (unhide HQC _).trans p0
            replace p1 := (unhide HQC _).trans p1
            replace d1 := (unhide HQC _).trans d1
            replace B := bnext B BQ
            replace RA := RA.next BQ
            replace PA := PA.next BQ
            replace QA := QA.next BQ
            clear BQ HQC q0 q1
            go_wp2
            go_quiet (fail)
            generalize hwq : World.drewN _ _ = wq2
            have BQ : Below wq.heap.size wq wq2 := by rw [← hwq]; exact bdrewN (Below.refl _ _) _
            clear hwq
            replace B := bnext B BQ
            replace RA := RA.next BQ
            replace PA := PA.next BQ
            replace QA := QA.next BQ
            clear BQ p0 p1 d1
            go_wp2
            go_roundw
            case rel => exact ⟨k + 1, by omega, by go_num, RA, PA, QA, B⟩
            case measure => simp [intOf]; omega
        · go_wp2_with fail
          refine (c_lineBadness A1 _ c1 rs a t y _ RA).mono ?_
          rintro e w4 ⟨he, hb⟩
          rw [unhide HB] at he
          subst he
          replace B := bnext B hb
          clear hb HB RA PA QA
          by_cases h0 : bad < 0
          · have g1 : decide (bad < 0) = true := decide_eq_true h0
            clear HFULL
            go_wp2
            go_ret
            exact ⟨rfl, B⟩
          · have g1 : decide (bad < 0) = false := decide_eq_false h0
            by_cases h1 : bad = 10000
            · subst h1
              clear HFULL
              go_wp2
              go_ret
              exact ⟨rfl, B⟩
            · obtain rfl := unhide HFULL (by omega) h1
              have g2 : (bad == 10000) = false := beq_eq_false_iff_ne.2 h1
              clear HFULL
              go_wp2
              go_ret
              exact ⟨rfl, B⟩
end Go.Proofs.Ytlklkloadefihaa
