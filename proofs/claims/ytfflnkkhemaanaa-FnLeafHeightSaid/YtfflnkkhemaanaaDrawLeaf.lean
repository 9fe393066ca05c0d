/- Drawing a page out of a code. No condition. -/
import Derived.Test.YtfflnkkhemaanaaDrawRows2
import Derived.Test.YtfflnkkhemaanaaLeavesX
import Derived.Test.YtfflnkkhemaanaaMin
import Derived.Deep.RegionHeld3
import Derived.Deep.RegionLaw
import Derived.Deep.AppendLies
namespace Go.Proofs.Ytfflnkkhemaanaa
open Go.RowKit
set_option linter.unusedVariables false

theorem own_low {w w' : World} {B e sz n : Nat} {v : Value} {xs : List Value} {row : Option Nat} (h : w.ownsRow B e sz v n xs) (hg : w.grownBy w' row) (hr : ∀ k, row = some k → k < B) : w'.ownsRow B e sz v n xs :=
  h.kept hg (by
    cases hv : v.ownBlock with
    | none => exact .inl rfl
    | some k => exact .inr (fun e => by have := hr k e.symm; have := (h.lt k hv).1; omega))
theorem own_high {w w' : World} {B e sz n m : Nat} {v : Value} {xs : List Value} {row : Option Nat} (h : w.ownsRow B e sz v n xs) (hg : w.grownBy w' row) (hv : ∀ k, v.ownBlock = some k → k < m) (hr : ∀ k, row = some k → m ≤ k) : w'.ownsRow B e sz v n xs :=
  h.kept hg (by
    cases hv' : v.ownBlock with
    | none => exact .inl rfl
    | some k => exact .inr (fun e => by have := hr k e.symm; have := hv k hv'; omega))

theorem own_drew {w : World} {B e sz n : Nat} {v : Value} {xs : List Value} (h : w.ownsRow B e sz v n xs) : w.drew.ownsRow B e sz v n xs := h
theorem set4 (w : World) (b : Nat) (u0 u1 u2 u3 : Value) : w.grownBy ((((w.setCell ⟨b, 0, none⟩ u0).setCell ⟨b, 1, none⟩ u1).setCell ⟨b, 2, none⟩ u2).setCell ⟨b, 3, none⟩ u3) (some b) :=
  gset (gset (gset (gset (grefl w (some b)) (.inl rfl) u0) (.inl rfl) u1) (.inl rfl) u2) (.inl rfl) u3

set_option maxHeartbeats 4000000 in
theorem c_drawLeafHeight (A : Option Addr) (n c : Nat) (xs : List Int) (w : World) (h : CodeAt w A n c xs) :
    Calls Try.prog 10 #[.slice A n c] w fun e w' => ∃ (A : Option Addr) (c : Nat) (rs : List Row) (x y z : Int) (A2 : Option Addr) (c2 : Nat) (fs : List Int), e = .returned (.tuple #[.slice A rs.length c, .agg #[.int .i64 x, .int .i64 y, .int .i64 z, .slice A2 fs.length c2]]) ∧ rs.length ≤ 31 ∧ fs.length ≤ 2 ∧ (-1 ≤ z ∧ z ≤ 1000001 ∧ z ≠ 1000000) ∧ RowsAt w' A rs.length c rs ∧ IntsAt w' A2 fs.length c2 fs ∧ Below w.heap.size w w' := by
  obtain ⟨i0, hi, hz0, hz1, hz2⟩ := info_parts infoInt
  go_enter Try.func10, Try.ntmps10
  have B0 := bof w (.cells #[.int .i64 0, .int .i64 0, .int .i64 0, .slice none 0 0] 26)
  have p0 := Blk.new w 26 #[.int .i64 0, .int .i64 0, .int .i64 0, .slice none 0 0]
  go_wp2_with fail
  refine (r_open A n c xs _ (h.next B0)).mono ?_
  rintro e w1 ⟨g, rfl, hg, hr, hb⟩
  replace p0 := p0.next hb
  replace B0 := bnext B0 hb
  simp only [size_alloc'] at hg
  have hgw : w.heap.size < g := by omega
  clear hg hb h
  go_wp2_with fail
  refine (r_rows' g _ 9 _ hr (by omega) (by omega)).mono ?_
  rintro e w2 ⟨A2, c2, rs, rfl, hl, O, hr2, hg2⟩
  have hgl := hr.lt
  have D2 : DSt w1 g (0 + 500) w2 := ⟨hr2, hg2, hgl⟩
  replace p0 := p0.grown hg2 (by intro e; injection e with e; omega)
  clear hr hr2 hg2
  go_wp2_with fail
  refine (r_pick g _ _ _ D2.rd (by omega)).mono ?_
  rintro e w3 ⟨x, rfl, hx, hr, hgr⟩
  replace p0 := p0.grown hgr (by intro e; injection e with e; omega)
  replace O := O.pick hgr hgl
  have D3 := D2.pick hr hgr
  clear hr hgr D2
  go_wp2_with fail
  refine (r_pick g _ _ _ D3.rd (by omega)).mono ?_
  rintro e w4 ⟨x4, rfl, hx4, hr, hgr⟩
  replace p0 := p0.grown hgr (by intro e; injection e with e; omega)
  replace O := O.pick hgr hgl
  have D4 := D3.pick hr hgr
  clear hr hgr D3
  obtain ⟨y, hy⟩ : ∃ y : Int, min (rs.length : Int) ((x : Int) + (x4 : Int)) = y := ⟨_, rfl⟩
  have hy0 : 0 ≤ y := by omega
  have hy1 : y ≤ 100 := by omega
  have HY := hide hy
  clear hy
  go_wp2_with (refine wpList_min rfl rfl rfl rfl ?_; rw [unhide HY])
  refine (r_pick g _ _ _ D4.rd (by omega)).mono ?_
  rintro e w5 ⟨z, rfl, hz, hr, hgr⟩
  replace p0 := p0.grown hgr (by intro e; injection e with e; omega)
  replace O := O.pick hgr hgl
  have D5 := D4.pick hr hgr
  clear hr hgr D4
  have hgl5 := D5.rd.lt
  have hw15' := D5.gr.size
  have hA2' : ∀ k, (Value.slice A2 rs.length c2).ownBlock = some k → k < w5.heap.size := fun k hk => (World.ownsRow.lt O k hk).2
  go_wp2_with fail
  refine (r_pick g _ _ _ (D5.alloc _).rd (by omega)).mono ?_
  rintro e w6 ⟨j, rfl, hj, hr, hgr⟩
  have q := (Blk.new w5 _ _).grown hgr (by intro e; injection e with e; omega)
  have D6 := (D5.alloc _).pick hr hgr
  replace p0 := (p0.alloc _).grown hgr (by intro e; injection e with e; omega)
  replace O := OwnR.pick (World.ownsRow.alloc O _) hgr hgl
  clear hr hgr D5
  have hz8 : (z : Int) ≤ 8 := by omega
  have hj2 : (j : Int) ≤ 2 := by omega
  clear hx hx4 hz hj
  have hA2 : ∀ k, (Value.slice A2 rs.length c2).ownBlock = some k → k < w5.heap.size := hA2'
  have hw1 : w.heap.size < w1.heap.size := by omega
  have hw15 : w1.heap.size ≤ w5.heap.size := hw15'
  have HA2 := hide hA2
  clear hA2 hA2'
  go_wp2
  go_loopw [8] (fun i wr => ∃ (k : Nat) (AF : Option Addr) (cF : Nat) (fs : List Int), k ≤ 2 ∧ i = .int .i64 k ∧ Hid (fs.length + k ≤ 2) ∧ Blk wr w5.heap.size 26 #[.int .i64 x, .int .i64 y, .int .i64 z, .slice AF fs.length cF] ∧ OwnI wr (w5.heap.size + 1) AF cF fs ∧ Blk wr w.heap.size 26 #[.int .i64 0, .int .i64 0, .int .i64 0, .slice none 0 0] ∧ OwnR wr w1.heap.size A2 c2 rs ∧ DSt w1 g (600 - k * 10) wr) (fun i _ => (intOf i).toNat)
  case atStart => exact ⟨j, none, 0, [], by omega, rfl, (show _ ≤ _ by simp; omega), q, OwnI.nil_ _ _, p0, O, D6.more (by omega)⟩
  case round =>
    clear q D6 p0 O
    obtain ⟨k, AF, cF, fs, hk, rfl, HFL, q, F, p0, O, D⟩ := hrel
    by_cases hlt : 0 < k
    · have q3 : wr.cell? ⟨w5.heap.size, 3, none⟩ = some (.slice AF fs.length cF) := q.cell 3
      have hfl : fs.length + k ≤ 2 := unhide HFL
      have hap2 : some w5.heap.size ≠ (Value.slice AF fs.length cF).ownBlock := fun e => by have := (World.ownsRow.lt F _ e.symm).1; omega
      have HAP := hide hap2
      have HFL2 := hide hfl
      clear hap2 hfl
      go_wp2
      go_region_law
        ((first
          | (go_simp; go_at_call 37; refine (r_pick g _ _ _ D.drew.rd (by omega)).mono ?_; rintro e w7 ⟨x7, rfl, hx7, hr7, hg7⟩; have q7 := q.drew.grown hg7 (by intro e; injection e with e; omega); have F7 : OwnI w7 _ _ _ _ := own_low (show OwnI wr.drew _ _ _ _ from F) hg7 (by intro q e; injection e with e; omega); have D7 := D.drew.pick hr7 hg7; have p7 := p0.drew.grown hg7 (by intro e; injection e with e; omega); have O7 := OwnR.pick (show OwnR wr.drew _ _ _ _ from O) hg7 hgl; have q73 : w7.cell? ⟨w5.heap.size, 3, none⟩ = some (.slice AF fs.length cF) := q7.cell 3; have q7a : (w7.alloc (.cells #[.int .i64 (x7 : Int)] 3)).cell? ⟨w5.heap.size, 3, none⟩ = some (.slice AF fs.length cF) := (q7.alloc _).cell 3)
          | (refine step_append_lies _ (by rfl) _ _ _ (by rfl) (w5.heap.size + 1) 3 i0 _ 1 8 Try.underlying24 hi hz0 hz1 hz2 rfl (by omega) (.slice AF fs.length cF) fs.length (fs.map (Value.int .i64)) (by rfl) (World.ownsRow.alloc F7 _) ⟨w7.heap.size, 0, none⟩ 1 1 [.int .i64 x7] (by rfl) (by rfl) (one_new _ _ _) (one_one _) (by omega) (by have := unhide HFL2; unfold maxLen; omega) (by have := unhide HFL2; omega) (by have := q7.lt; simp; omega) _ rfl ?_; intro gg cap w8 F8 hg8 hat hlt8; have q8 := (q7.alloc _).grown hg8 (unhide HAP); have z8 := q8.frozen 3; have q83 : w8.cell? ⟨w5.heap.size, 3, none⟩ = some (.slice AF fs.length cF) := q8.cell 3)))
      all_goals
        have h8 : OwnI w8 (w5.heap.size + 1) (some ⟨gg, 0, none⟩) cap (fs ++ [(x7 : Int)]) := by
          unfold OwnI; rw [List.map_append, List.length_append]; exact F8
        have hF7 := World.ownsRow.alloc F7 (.cells #[.int .i64 (x7 : Int)] 3)
        have hrow : ∀ k, (Value.slice AF fs.length cF).ownBlock = some k → w5.heap.size + 1 ≤ k := fun k hk => (World.ownsRow.lt hF7 k hk).1
        have hset : w8.grownBy (w8.setCell ⟨w5.heap.size, 3, none⟩ (.slice (some ⟨gg, 0, none⟩) (fs.length + 1) cap)) (some w5.heap.size) := gset (grefl w8 (some w5.heap.size)) (.inl rfl) _
        have hnew : OwnI (w8.setCell ⟨w5.heap.size, 3, none⟩ (.slice (some ⟨gg, 0, none⟩) (fs.length + 1) cap)) (w5.heap.size + 1) (some ⟨gg, 0, none⟩) cap (fs ++ [(x7 : Int)]) :=
          own_low h8 hset (by intro k e; injection e with e; omega)
        have q9 := q8.set_ 3 (.slice (some ⟨gg, 0, none⟩) (fs.length + 1) cap)
        have hlen9 : (fs ++ [(x7 : Int)]).length = fs.length + 1 := by simp
        have q10 : Blk (w8.setCell ⟨w5.heap.size, 3, none⟩ (.slice (some ⟨gg, 0, none⟩) (fs.length + 1) cap)) w5.heap.size 26 #[.int .i64 x, .int .i64 y, .int .i64 z, .slice (some ⟨gg, 0, none⟩) (fs ++ [(x7 : Int)]).length cap] := by
          rw [hlen9]; exact q9
        have p10 := ((p7.alloc (.cells #[.int .i64 (x7 : Int)] 3)).grown hg8 (fun e => by have := hrow w.heap.size e.symm; omega)).far (p := ⟨w5.heap.size, 3, none⟩) (by simp; omega) (.slice (some ⟨gg, 0, none⟩) (fs.length + 1) cap)
        have D10 : DSt w1 g (600 - (k - 1) * 10) (w8.setCell ⟨w5.heap.size, 3, none⟩ (.slice (some ⟨gg, 0, none⟩) (fs.length + 1) cap)) := by
          have d8 := (D7.alloc (.cells #[.int .i64 (x7 : Int)] 3)).push (own_base hF7 (by omega)) hg8
          exact ⟨(d8.rd.set (p := ⟨w5.heap.size, 3, none⟩) (by simp; omega) _).mono (by omega), gset d8.gr (.inr (by simp; omega)) _, d8.lt⟩
        have O10 : OwnR (w8.setCell ⟨w5.heap.size, 3, none⟩ (.slice (some ⟨gg, 0, none⟩) (fs.length + 1) cap)) w1.heap.size A2 c2 rs :=
          own_high (own_high (World.ownsRow.alloc O7 (.cells #[.int .i64 (x7 : Int)] 3)) hg8 (unhide HA2) (fun k hk => by have := hrow k hk; omega)) hset (unhide HA2) (by intro k e; injection e with e; omega)
        have HX : Hid ((fs ++ [(x7 : Int)]).length + (k - 1) ≤ 2) := by show _ ≤ _; rw [hlen9]; have := unhide HFL2; omega
        clear hlen9 q9 hF7 hrow hset h8 p7 q7 q8 q73 q7a q83 z8 F8 F7 D7 O7
        go_wp2
        go_roundw
        case rel => exact ⟨k - 1, some ⟨gg, 0, none⟩, cap, fs ++ [(x7 : Int)], by omega, by go_num, HX, q10, hnew, p10, O10, D10⟩
        case measure => simp [intOf]; omega
    · have hk0 : k = 0 := by omega
      subst hk0
      go_wp2_with fail
      refine (r_odd g _ 6 _ D.rd (by omega) (by omega)).mono ?_
      rintro e w7 ⟨bo, rfl, _, hr, hgr⟩
      replace q := q.grown hgr (by intro e; injection e with e; omega)
      replace p0 := p0.grown hgr (by intro e; injection e with e; omega)
      replace F : OwnI w7 _ _ _ _ := own_low F hgr (by intro q e; injection e with e; omega)
      replace O := OwnR.pick O hgr hgl
      replace D := D.pick hr hgr
      clear hr hgr
      cases bo
      · have q0 : w7.cell? ⟨w5.heap.size, 0, none⟩ = some (.int .i64 (x)) := q.cell 0
        have q1 : w7.cell? ⟨w5.heap.size, 1, none⟩ = some (.int .i64 (y)) := q.cell 1
        have q2 : w7.cell? ⟨w5.heap.size, 2, none⟩ = some (.int .i64 (z)) := q.cell 2
        have q3 : w7.cell? ⟨w5.heap.size, 3, none⟩ = some (.slice AF fs.length cF) := q.cell 3
        have r0 : w7.cell? ⟨w.heap.size, 0, none⟩ = some (.int .i64 0) := p0.cell 0
        have r1 : w7.cell? ⟨w.heap.size, 1, none⟩ = some (.int .i64 0) := p0.cell 1
        have r2 : w7.cell? ⟨w.heap.size, 2, none⟩ = some (.int .i64 0) := p0.cell 2
        have r3 : w7.cell? ⟨w.heap.size, 3, none⟩ = some (.slice none 0 0) := p0.cell 3
        have z0 := p0.frozen 0
        have z1 := p0.frozen 1
        have z2 := p0.frozen 2
        have z3 := p0.frozen 3
        have BF : Below w.heap.size w w7 := r_fresh (g := g) (by omega) B0 D.gr
        have hsz := D.gr.size
        have hF := hide F
        have hO := hide O
        clear q p0 F O
        go_wp2
        go_region
        all_goals
          go_wp2
          refine bodyPost_ret (v := .tuple #[.slice A2 rs.length c2, .agg #[.int .i64 (x), .int .i64 (y), .int .i64 (z), .slice AF fs.length cF]]) (by simp [results, Try.results10, go_sem, *]) rfl ⟨A2, c2, rs, _, _, _, AF, cF, fs, rfl, hl, by have := unhide HFL; omega, by omega, ?_, ?_, ?_⟩
          · exact OwnR.at_ (B := w1.heap.size) (own_low (own_drew (unhide hO)) (set4 _ w.heap.size (.int .i64 (x)) (.int .i64 (y)) (.int .i64 (z)) (.slice AF fs.length cF)) (by intro k e; injection e with e; omega))
          · exact OwnI.at_ (B := w5.heap.size + 1) (own_low (own_drew (unhide hF)) (set4 _ w.heap.size (.int .i64 (x)) (.int .i64 (y)) (.int .i64 (z)) (.slice AF fs.length cF)) (by intro k e; injection e with e; omega))
          · exact BF.drew.grown (set4 _ w.heap.size (.int .i64 (x)) (.int .i64 (y)) (.int .i64 (z)) (.slice AF fs.length cF)) BF.drew.size (by intro k e; injection e with e; omega)
      · go_wp2_with fail
        refine (r_pick g _ _ _ D.rd (by omega)).mono ?_
        rintro e w8 ⟨s8, rfl, hs8, hr, hgr⟩
        replace q := q.grown hgr (by intro e; injection e with e; omega)
        replace p0 := p0.grown hgr (by intro e; injection e with e; omega)
        replace F : OwnI w8 _ _ _ _ := own_low F hgr (by intro q e; injection e with e; omega)
        replace O := OwnR.pick O hgr hgl
        replace D := D.pick hr hgr
        clear hr hgr
        have hs3 : s8 = 0 ∨ s8 = 1 ∨ s8 = 2 := by omega
        clear hs8
        have fz0 := q.frozen 0
        have fz1 := q.frozen 1
        have fz2 := q.frozen 2
        have c0 : w8.cell? ⟨w5.heap.size, 0, none⟩ = some (.int .i64 x) := q.cell 0
        have c1 : w8.cell? ⟨w5.heap.size, 1, none⟩ = some (.int .i64 y) := q.cell 1
        have c2' : w8.cell? ⟨w5.heap.size, 2, none⟩ = some (.int .i64 z) := q.cell 2
        rcases hs3 with rfl | rfl | rfl
        · go_wp2
          have hset : w8.grownBy (w8.setCell ⟨w5.heap.size, 1, none⟩ (.int .i64 ((rs.length : Int) + 1))) (some w5.heap.size) := gset (grefl w8 (some w5.heap.size)) (.inl rfl) _
          have D9 : DSt w1 g 700 (w8.setCell ⟨w5.heap.size, 1, none⟩ (.int .i64 ((rs.length : Int) + 1))) := ⟨(D.rd.set (p := ⟨w5.heap.size, 1, none⟩) (by simp; omega) _).mono (by omega), gset D.gr (.inr (by simp; omega)) _, D.lt⟩
          have q9 := q.set_ 1 (.int .i64 ((rs.length : Int) + 1))
          have p9 := p0.far (p := ⟨w5.heap.size, 1, none⟩) (by simp; omega) (.int .i64 ((rs.length : Int) + 1))
          have F9 : OwnI (w8.setCell ⟨w5.heap.size, 1, none⟩ (.int .i64 ((rs.length : Int) + 1))) (w5.heap.size + 1) AF cF fs := own_low F hset (by intro q e; injection e with e; omega)
          have O9 : OwnR (w8.setCell ⟨w5.heap.size, 1, none⟩ (.int .i64 ((rs.length : Int) + 1))) w1.heap.size A2 c2 rs := own_high O hset (unhide HA2) (by intro q e; injection e with e; omega)
          clear q p0 F O D hset fz0 fz1 fz2 c0 c1 c2'
          generalize w8.setCell ⟨w5.heap.size, 1, none⟩ (.int .i64 ((rs.length : Int) + 1)) = wZ at q9 p9 F9 O9 D9 ⊢
          have q0 : wZ.cell? ⟨w5.heap.size, 0, none⟩ = some (.int .i64 (x)) := q9.cell 0
          have q1 : wZ.cell? ⟨w5.heap.size, 1, none⟩ = some (.int .i64 ((rs.length : Int) + 1)) := q9.cell 1
          have q2 : wZ.cell? ⟨w5.heap.size, 2, none⟩ = some (.int .i64 (z)) := q9.cell 2
          have q3 : wZ.cell? ⟨w5.heap.size, 3, none⟩ = some (.slice AF fs.length cF) := q9.cell 3
          have r0 : wZ.cell? ⟨w.heap.size, 0, none⟩ = some (.int .i64 0) := p9.cell 0
          have r1 : wZ.cell? ⟨w.heap.size, 1, none⟩ = some (.int .i64 0) := p9.cell 1
          have r2 : wZ.cell? ⟨w.heap.size, 2, none⟩ = some (.int .i64 0) := p9.cell 2
          have r3 : wZ.cell? ⟨w.heap.size, 3, none⟩ = some (.slice none 0 0) := p9.cell 3
          have z0 := p9.frozen 0
          have z1 := p9.frozen 1
          have z2 := p9.frozen 2
          have z3 := p9.frozen 3
          have BF : Below w.heap.size w wZ := r_fresh (g := g) (by omega) B0 D9.gr
          have hsz := D9.gr.size
          have hF := hide F9
          have hO := hide O9
          clear q9 p9 F9 O9
          go_region
          all_goals
            go_wp2
            refine bodyPost_ret (v := .tuple #[.slice A2 rs.length c2, .agg #[.int .i64 (x), .int .i64 ((rs.length : Int) + 1), .int .i64 (z), .slice AF fs.length cF]]) (by simp [results, Try.results10, go_sem, *]) rfl ⟨A2, c2, rs, _, _, _, AF, cF, fs, rfl, hl, by have := unhide HFL; omega, by omega, ?_, ?_, ?_⟩
            · exact OwnR.at_ (B := w1.heap.size) (own_low (own_drew (unhide hO)) (set4 _ w.heap.size (.int .i64 (x)) (.int .i64 ((rs.length : Int) + 1)) (.int .i64 (z)) (.slice AF fs.length cF)) (by intro k e; injection e with e; omega))
            · exact OwnI.at_ (B := w5.heap.size + 1) (own_low (own_drew (unhide hF)) (set4 _ w.heap.size (.int .i64 (x)) (.int .i64 ((rs.length : Int) + 1)) (.int .i64 (z)) (.slice AF fs.length cF)) (by intro k e; injection e with e; omega))
            · exact BF.drew.grown (set4 _ w.heap.size (.int .i64 (x)) (.int .i64 ((rs.length : Int) + 1)) (.int .i64 (z)) (.slice AF fs.length cF)) BF.drew.size (by intro k e; injection e with e; omega)
        · go_wp2
          have hset : w8.grownBy (w8.setCell ⟨w5.heap.size, 0, none⟩ (.int .i64 (y + 1))) (some w5.heap.size) := gset (grefl w8 (some w5.heap.size)) (.inl rfl) _
          have D9 : DSt w1 g 700 (w8.setCell ⟨w5.heap.size, 0, none⟩ (.int .i64 (y + 1))) := ⟨(D.rd.set (p := ⟨w5.heap.size, 0, none⟩) (by simp; omega) _).mono (by omega), gset D.gr (.inr (by simp; omega)) _, D.lt⟩
          have q9 := q.set_ 0 (.int .i64 (y + 1))
          have p9 := p0.far (p := ⟨w5.heap.size, 0, none⟩) (by simp; omega) (.int .i64 (y + 1))
          have F9 : OwnI (w8.setCell ⟨w5.heap.size, 0, none⟩ (.int .i64 (y + 1))) (w5.heap.size + 1) AF cF fs := own_low F hset (by intro q e; injection e with e; omega)
          have O9 : OwnR (w8.setCell ⟨w5.heap.size, 0, none⟩ (.int .i64 (y + 1))) w1.heap.size A2 c2 rs := own_high O hset (unhide HA2) (by intro q e; injection e with e; omega)
          clear q p0 F O D hset fz0 fz1 fz2 c0 c1 c2'
          generalize w8.setCell ⟨w5.heap.size, 0, none⟩ (.int .i64 (y + 1)) = wZ at q9 p9 F9 O9 D9 ⊢
          have q0 : wZ.cell? ⟨w5.heap.size, 0, none⟩ = some (.int .i64 (y + 1)) := q9.cell 0
          have q1 : wZ.cell? ⟨w5.heap.size, 1, none⟩ = some (.int .i64 (y)) := q9.cell 1
          have q2 : wZ.cell? ⟨w5.heap.size, 2, none⟩ = some (.int .i64 (z)) := q9.cell 2
          have q3 : wZ.cell? ⟨w5.heap.size, 3, none⟩ = some (.slice AF fs.length cF) := q9.cell 3
          have r0 : wZ.cell? ⟨w.heap.size, 0, none⟩ = some (.int .i64 0) := p9.cell 0
          have r1 : wZ.cell? ⟨w.heap.size, 1, none⟩ = some (.int .i64 0) := p9.cell 1
          have r2 : wZ.cell? ⟨w.heap.size, 2, none⟩ = some (.int .i64 0) := p9.cell 2
          have r3 : wZ.cell? ⟨w.heap.size, 3, none⟩ = some (.slice none 0 0) := p9.cell 3
          have z0 := p9.frozen 0
          have z1 := p9.frozen 1
          have z2 := p9.frozen 2
          have z3 := p9.frozen 3
          have BF : Below w.heap.size w wZ := r_fresh (g := g) (by omega) B0 D9.gr
          have hsz := D9.gr.size
          have hF := hide F9
          have hO := hide O9
          clear q9 p9 F9 O9
          go_region
          all_goals
            go_wp2
            refine bodyPost_ret (v := .tuple #[.slice A2 rs.length c2, .agg #[.int .i64 (y + 1), .int .i64 (y), .int .i64 (z), .slice AF fs.length cF]]) (by simp [results, Try.results10, go_sem, *]) rfl ⟨A2, c2, rs, _, _, _, AF, cF, fs, rfl, hl, by have := unhide HFL; omega, by omega, ?_, ?_, ?_⟩
            · exact OwnR.at_ (B := w1.heap.size) (own_low (own_drew (unhide hO)) (set4 _ w.heap.size (.int .i64 (y + 1)) (.int .i64 (y)) (.int .i64 (z)) (.slice AF fs.length cF)) (by intro k e; injection e with e; omega))
            · exact OwnI.at_ (B := w5.heap.size + 1) (own_low (own_drew (unhide hF)) (set4 _ w.heap.size (.int .i64 (y + 1)) (.int .i64 (y)) (.int .i64 (z)) (.slice AF fs.length cF)) (by intro k e; injection e with e; omega))
            · exact BF.drew.grown (set4 _ w.heap.size (.int .i64 (y + 1)) (.int .i64 (y)) (.int .i64 (z)) (.slice AF fs.length cF)) BF.drew.size (by intro k e; injection e with e; omega)
        · go_wp2_with fail
          clear fz0 fz1 fz2 c0 c1 c2'
          refine (r_pick g _ _ _ (D.alloc _).rd (by omega)).mono ?_
          rintro e w9 ⟨s9, rfl, hs9, hr, hgr⟩
          have qb := (Blk.new w8 _ _).grown hgr (by intro e; injection e with e; have := D.rd.lt; omega)
          replace q := (q.alloc _).grown hgr (by intro e; injection e with e; omega)
          replace p0 := (p0.alloc _).grown hgr (by intro e; injection e with e; omega)
          replace F : OwnI w9 _ _ _ _ := own_low (World.ownsRow.alloc F _) hgr (by intro q e; injection e with e; omega)
          replace O := OwnR.pick (World.ownsRow.alloc O _) hgr hgl
          replace D := (D.alloc _).pick hr hgr
          clear hr hgr
          have fz0 := q.frozen 0
          have fz1 := q.frozen 1
          have fz2 := q.frozen 2
          have c0 : w9.cell? ⟨w5.heap.size, 0, none⟩ = some (.int .i64 x) := q.cell 0
          have c1 : w9.cell? ⟨w5.heap.size, 1, none⟩ = some (.int .i64 y) := q.cell 1
          have c2' : w9.cell? ⟨w5.heap.size, 2, none⟩ = some (.int .i64 z) := q.cell 2
          have hs2 : s9 = 0 ∨ s9 = 1 := by omega
          clear hs9
          rcases hs2 with rfl | rfl
          · have qv : w9.cell? ⟨w8.heap.size, 0, none⟩ = some (.int .i64 (-1)) := qb.cell 0
            clear qb
            go_wp2
            clear qv
            have hset : w9.grownBy (w9.setCell ⟨w5.heap.size, 2, none⟩ (.int .i64 (-1))) (some w5.heap.size) := gset (grefl w9 (some w5.heap.size)) (.inl rfl) _
            have D9 : DSt w1 g 700 (w9.setCell ⟨w5.heap.size, 2, none⟩ (.int .i64 (-1))) := ⟨(D.rd.set (p := ⟨w5.heap.size, 2, none⟩) (by simp; omega) _).mono (by omega), gset D.gr (.inr (by simp; omega)) _, D.lt⟩
            have q9 := q.set_ 2 (.int .i64 (-1))
            have p9 := p0.far (p := ⟨w5.heap.size, 2, none⟩) (by simp; omega) (.int .i64 (-1))
            have F9 : OwnI (w9.setCell ⟨w5.heap.size, 2, none⟩ (.int .i64 (-1))) (w5.heap.size + 1) AF cF fs := own_low F hset (by intro q e; injection e with e; omega)
            have O9 : OwnR (w9.setCell ⟨w5.heap.size, 2, none⟩ (.int .i64 (-1))) w1.heap.size A2 c2 rs := own_high O hset (unhide HA2) (by intro q e; injection e with e; omega)
            clear q p0 F O D hset fz0 fz1 fz2 c0 c1 c2'
            generalize w9.setCell ⟨w5.heap.size, 2, none⟩ (.int .i64 (-1)) = wZ at q9 p9 F9 O9 D9 ⊢
            have q0 : wZ.cell? ⟨w5.heap.size, 0, none⟩ = some (.int .i64 (x)) := q9.cell 0
            have q1 : wZ.cell? ⟨w5.heap.size, 1, none⟩ = some (.int .i64 (y)) := q9.cell 1
            have q2 : wZ.cell? ⟨w5.heap.size, 2, none⟩ = some (.int .i64 (-1)) := q9.cell 2
            have q3 : wZ.cell? ⟨w5.heap.size, 3, none⟩ = some (.slice AF fs.length cF) := q9.cell 3
            have r0 : wZ.cell? ⟨w.heap.size, 0, none⟩ = some (.int .i64 0) := p9.cell 0
            have r1 : wZ.cell? ⟨w.heap.size, 1, none⟩ = some (.int .i64 0) := p9.cell 1
            have r2 : wZ.cell? ⟨w.heap.size, 2, none⟩ = some (.int .i64 0) := p9.cell 2
            have r3 : wZ.cell? ⟨w.heap.size, 3, none⟩ = some (.slice none 0 0) := p9.cell 3
            have z0 := p9.frozen 0
            have z1 := p9.frozen 1
            have z2 := p9.frozen 2
            have z3 := p9.frozen 3
            have BF : Below w.heap.size w wZ := r_fresh (g := g) (by omega) B0 D9.gr
            have hsz := D9.gr.size
            have hF := hide F9
            have hO := hide O9
            clear q9 p9 F9 O9
            go_region
            all_goals
              go_wp2
              refine bodyPost_ret (v := .tuple #[.slice A2 rs.length c2, .agg #[.int .i64 (x), .int .i64 (y), .int .i64 (-1), .slice AF fs.length cF]]) (by simp [results, Try.results10, go_sem, *]) rfl ⟨A2, c2, rs, _, _, _, AF, cF, fs, rfl, hl, by have := unhide HFL; omega, by omega, ?_, ?_, ?_⟩
              · exact OwnR.at_ (B := w1.heap.size) (own_low (own_drew (unhide hO)) (set4 _ w.heap.size (.int .i64 (x)) (.int .i64 (y)) (.int .i64 (-1)) (.slice AF fs.length cF)) (by intro k e; injection e with e; omega))
              · exact OwnI.at_ (B := w5.heap.size + 1) (own_low (own_drew (unhide hF)) (set4 _ w.heap.size (.int .i64 (x)) (.int .i64 (y)) (.int .i64 (-1)) (.slice AF fs.length cF)) (by intro k e; injection e with e; omega))
              · exact BF.drew.grown (set4 _ w.heap.size (.int .i64 (x)) (.int .i64 (y)) (.int .i64 (-1)) (.slice AF fs.length cF)) BF.drew.size (by intro k e; injection e with e; omega)
          · have qv : w9.cell? ⟨w8.heap.size, 1, none⟩ = some (.int .i64 (1000001)) := qb.cell 1
            clear qb
            go_wp2
            clear qv
            have hset : w9.grownBy (w9.setCell ⟨w5.heap.size, 2, none⟩ (.int .i64 (1000001))) (some w5.heap.size) := gset (grefl w9 (some w5.heap.size)) (.inl rfl) _
            have D9 : DSt w1 g 700 (w9.setCell ⟨w5.heap.size, 2, none⟩ (.int .i64 (1000001))) := ⟨(D.rd.set (p := ⟨w5.heap.size, 2, none⟩) (by simp; omega) _).mono (by omega), gset D.gr (.inr (by simp; omega)) _, D.lt⟩
            have q9 := q.set_ 2 (.int .i64 (1000001))
            have p9 := p0.far (p := ⟨w5.heap.size, 2, none⟩) (by simp; omega) (.int .i64 (1000001))
            have F9 : OwnI (w9.setCell ⟨w5.heap.size, 2, none⟩ (.int .i64 (1000001))) (w5.heap.size + 1) AF cF fs := own_low F hset (by intro q e; injection e with e; omega)
            have O9 : OwnR (w9.setCell ⟨w5.heap.size, 2, none⟩ (.int .i64 (1000001))) w1.heap.size A2 c2 rs := own_high O hset (unhide HA2) (by intro q e; injection e with e; omega)
            clear q p0 F O D hset fz0 fz1 fz2 c0 c1 c2'
            generalize w9.setCell ⟨w5.heap.size, 2, none⟩ (.int .i64 (1000001)) = wZ at q9 p9 F9 O9 D9 ⊢
            have q0 : wZ.cell? ⟨w5.heap.size, 0, none⟩ = some (.int .i64 (x)) := q9.cell 0
            have q1 : wZ.cell? ⟨w5.heap.size, 1, none⟩ = some (.int .i64 (y)) := q9.cell 1
            have q2 : wZ.cell? ⟨w5.heap.size, 2, none⟩ = some (.int .i64 (1000001)) := q9.cell 2
            have q3 : wZ.cell? ⟨w5.heap.size, 3, none⟩ = some (.slice AF fs.length cF) := q9.cell 3
            have r0 : wZ.cell? ⟨w.heap.size, 0, none⟩ = some (.int .i64 0) := p9.cell 0
            have r1 : wZ.cell? ⟨w.heap.size, 1, none⟩ = some (.int .i64 0) := p9.cell 1
            have r2 : wZ.cell? ⟨w.heap.size, 2, none⟩ = some (.int .i64 0) := p9.cell 2
            have r3 : wZ.cell? ⟨w.heap.size, 3, none⟩ = some (.slice none 0 0) := p9.cell 3
            have z0 := p9.frozen 0
            have z1 := p9.frozen 1
            have z2 := p9.frozen 2
            have z3 := p9.frozen 3
            have BF : Below w.heap.size w wZ := r_fresh (g := g) (by omega) B0 D9.gr
            have hsz := D9.gr.size
            have hF := hide F9
            have hO := hide O9
            clear q9 p9 F9 O9
            go_region
            all_goals
              go_wp2
              refine bodyPost_ret (v := .tuple #[.slice A2 rs.length c2, .agg #[.int .i64 (x), .int .i64 (y), .int .i64 (1000001), .slice AF fs.length cF]]) (by simp [results, Try.results10, go_sem, *]) rfl ⟨A2, c2, rs, _, _, _, AF, cF, fs, rfl, hl, by have := unhide HFL; omega, by omega, ?_, ?_, ?_⟩
              · exact OwnR.at_ (B := w1.heap.size) (own_low (own_drew (unhide hO)) (set4 _ w.heap.size (.int .i64 (x)) (.int .i64 (y)) (.int .i64 (1000001)) (.slice AF fs.length cF)) (by intro k e; injection e with e; omega))
              · exact OwnI.at_ (B := w5.heap.size + 1) (own_low (own_drew (unhide hF)) (set4 _ w.heap.size (.int .i64 (x)) (.int .i64 (y)) (.int .i64 (1000001)) (.slice AF fs.length cF)) (by intro k e; injection e with e; omega))
              · exact BF.drew.grown (set4 _ w.heap.size (.int .i64 (x)) (.int .i64 (y)) (.int .i64 (1000001)) (.slice AF fs.length cF)) BF.drew.size (by intro k e; injection e with e; omega)
end Go.Proofs.Ytfflnkkhemaanaa
