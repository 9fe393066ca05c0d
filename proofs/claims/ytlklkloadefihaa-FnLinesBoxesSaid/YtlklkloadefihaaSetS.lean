/- Glues set to a width, the reference's: contract. No condition. -/
import Derived.Test.YtlklkloadefihaaMgl
import Derived.Test.YtlklkloadefihaaSet
import Derived.Test.YtlklkloadefihaaMf
namespace Go.Proofs.Ytlklkloadefihaa
open Go.RowKit
set_option linter.unusedVariables false

theorem val0 (x sgn all b u : Int) : x + sgn * (((0 : Int) * (b + u)).tdiv all - ((0 : Int) * b).tdiv all) = x := by simp
theorem valu (x sgn need all b : Int) : x + sgn * ((need * (b + 0)).tdiv all - (need * b).tdiv all) = x := by simp
theorem vals (x all b u : Int) (h : 1 ≤ all) : x + -1 * ((all * (b + u)).tdiv all - (all * b).tdiv all) = x + -u := by
  rw [Int.mul_tdiv_cancel_left _ (by omega), Int.mul_tdiv_cancel_left _ (by omega)]; omega
theorem sh_zero : ∀ {l : List Gl}, l.all Gl.ok = true → gSh l = 0 → ∀ g ∈ l, g.sh = 0
  | [], _, _ => by simp
  | g :: t, h, h0 => by
    rw [List.all_cons, Bool.and_eq_true] at h
    have a := Gl.ok_iff.1 h.1
    have b := gSh_bd h.2
    simp only [gSh, List.map_cons, List.sum_cons] at h0 b
    intro x hx
    rcases List.mem_cons.1 hx with rfl | hx
    · omega
    · exact sh_zero h.2 (by simp only [gSh]; omega) x hx
set_option maxRecDepth 100000 in
set_option maxHeartbeats 12800000 in
theorem c_setGlues' (A : Option Addr) (n c : Nat) (gs : List Gl) (width : Int) (w : World) (hR : GlsAt w A n c gs) (hok : gs.all Gl.ok = true) (hn : n ≤ 60) (hw : 0 ≤ width ∧ width ≤ 60000) :
    Calls Try.prog 59 #[.slice A n c, .int .i64 width] w fun e w' => ∃ A' c' ok, e = .returned (.tuple #[.slice A' (setWs gs width).length c', .bool ok]) ∧ OwnI w' w.heap.size A' c' (setWs gs width) ∧ Below w.heap.size w w' := by
  have hlen := hR.len
  have hbd := hR.bd
  have HOK := hide hok
  have HLEN := hide hlen
  have t1 := gW_bd hok
  have t2 := gSt_bd (o := gOd gs) hok
  have t3 := gSh_bd hok
  rw [hlen] at t1 t2 t3
  obtain ⟨T, HT⟩ : ∃ T, Hid (T = gTot gs) := ⟨_, rfl⟩
  have hTw : T.w = gW gs := by rw [unhide HT]; rfl
  have hTs : T.st = gSt (gOd gs) gs := by rw [unhide HT]; rfl
  have hTh : T.sh = gSh gs := by rw [unhide HT]; rfl
  have hz := sh_zero hok
  rw [← hTw] at t1
  rw [← hTs] at t2
  rw [← hTh] at t3 hz
  have HZ := hide hz
  obtain ⟨hw0, hw1⟩ := hw
  obtain ⟨Tw, Tst, Tsh, Tod⟩ := T
  dsimp only at t1 t2 t3
  obtain ⟨X, HXX⟩ : ∃ X, Hid (setWs gs width = X) := ⟨_, rfl⟩
  have HX : Hid (∀ need all sgn neg, setPar ⟨Tw, Tst, Tsh, Tod⟩ width = ⟨need, all, sgn, neg⟩ → X = setGo need all sgn (useOf neg Tod) 0 gs) := by
    show ∀ need all sgn neg, _ → _
    intro need all sgn neg h
    rw [← unhide HXX, setWs, ← unhide HT, h]
  have i1 : inB width 0 60000 = true := inB_iff.2 ⟨hw0, hw1⟩
  have O0 := OwnI.fresh w
  have hb0 := bof w (.cells #[] 3)
  clear hok hlen hTw hTs hTh hz
  obtain ⟨more, em⟩ : ∃ m, width - Tw = m := ⟨_, rfl⟩
  have hm1 : -60000 ≤ more ∧ more ≤ 60000 := by omega
  have hmw : Tw = width - more := by omega
  have HMW := hide hmw
  clear hmw
  go_enter Try.func59, Try.ntmps59
  go_wp2_with fail
  refine (c_l1Valid A n c gs _ (hR.next hb0) (unhide HOK) hn).mono ?_
  rintro e w1 ⟨rfl, hb1⟩
  replace O0 := O0.next hb1
  replace hb0 := bnext hb0 hb1
  clear hb1
  go_wp2_with (go_at_call 47; refine (c_l1In _ _ _ _).mono ?_; rintro e w' ⟨rfl, rfl⟩)
  refine (c_glueTotal' A n c gs _ (hR.next hb0) (unhide HOK) hn ⟨Tw, Tst, Tsh, Tod⟩ HT).mono ?_
  rintro e w2 ⟨rfl, hb1⟩
  replace O0 := O0.next hb1
  replace hb0 := bnext hb0 hb1
  clear hb1 i1
  have q7 := Blk.new w2 29 #[.int .i64 Tw, .int .i64 Tst, .int .i64 Tsh, .int .i64 Tod]
  have O1 : OwnI _ w.heap.size (some ⟨w.heap.size, 0, none⟩) 0 [] := World.ownsRow.alloc O0 (.cells #[.int .i64 Tw, .int .i64 Tst, .int .i64 Tsh, .int .i64 Tod] 29)
  have hb2 := bmk hb0 (.cells #[.int .i64 Tw, .int .i64 Tst, .int .i64 Tsh, .int .i64 Tod] 29)
  have hO := World.ownsRow.lt O0
  have hne7 : w2.heap.size ≠ w.heap.size := by
    have := (hO w.heap.size rfl).2; omega
  obtain ⟨g7, HG7⟩ : ∃ g, Hid (g = w2.heap.size) := ⟨_, rfl⟩
  rw [← unhide HG7] at q7 hne7
  clear O0 hb0 hO
  rcases (show more = 0 ∨ 0 < more ∨ more < 0 by omega) with hm | hm | hm
  · have hd1 : (more == 0) = true := by simpa using hm
    have hd2 : decide (0 < more) = false := by simp; omega
    have hd3 : decide (more < 0) = false := by simp; omega
    have HM := hide hm
    clear hm
    by_cases hz : Tst = 0
    · have HZ2 := hide hz
      clear hz
      have HX2 : Hid (X = setGo (0) (1) (1) (useOf false Tod) 0 gs) := unhide HX _ _ _ _ (by have := unhide HM; have := unhide HMW; have h1 : Tw ≤ width := (by omega); simp [setPar, h1, unhide HZ2])
      clear HX
      go_wp2
      rw [← unhide HG7]
      clear HG7
      go_loopw [6, 9, 10] (fun o sv i wr => ∃ (k : Nat) (A' : Option Addr) (c' : Nat) (acc : List Int) (b s : Int), k ≤ n ∧ i = .int .i64 k ∧ sv = .int .i64 s ∧ s = 0 ∧ 0 ≤ b ∧ b ≤ 1000 * (k : Int) ∧ o = .slice A' acc.length c' ∧ acc.length = k ∧ Hid (X = acc ++ setGo (0) (1) (1) (useOf false Tod) b (gs.drop k)) ∧ OwnI wr w.heap.size A' c' acc ∧ (Value.slice A' acc.length c').ownBlock ≠ some g7 ∧ Blk wr g7 29 #[.int .i64 Tw, .int .i64 Tst, .int .i64 Tsh, .int .i64 Tod] ∧ Below w.heap.size w wr) (fun _ _ i _ => n - (intOf i).toNat)
      case atStart => exact ⟨0, _, 0, [], 0, 0, Nat.zero_le _, rfl, rfl, rfl, by omega, by omega, rfl, rfl, by show _ = _; rw [unhide HX2]; simp, O1, by simp [Value.ownBlock]; omega, q7, hb2⟩
      case round =>
        clear q7 hb2 HX2 O1
        obtain ⟨k, A', c', acc, b, s, hk, rfl, rfl, hsr, hb0, hbk, rfl, hal, hgo, hown, hap, q7, hb⟩ := hrel
        have HAL := hide hal
        have hal2 : acc.length ≤ 60 := by omega
        clear hal
        subst hsr
        have hbs := hb.size
        have c70 : wr.cell? ⟨g7, 0, none⟩ = some (.int .i64 Tw) := q7.cell 0
        have c71 : wr.cell? ⟨g7, 1, none⟩ = some (.int .i64 Tst) := q7.cell 1
        have c72 : wr.cell? ⟨g7, 2, none⟩ = some (.int .i64 Tsh) := q7.cell 2
        have c73 : wr.cell? ⟨g7, 3, none⟩ = some (.int .i64 Tod) := q7.cell 3
        have l7 := q7.lt
        by_cases hlt : k < n
        · obtain ⟨bg, off, g, rfl, hbl, hg, h0, h1, h2, h3⟩ := (hR.next hb).at_ hlt
          have hgk := List.all_eq_true.1 (unhide HOK) g (mem_of_get hg)
          have hub := useOf_bd (neg := false) (od := Tod) hgk
          have hgo2 := hide (setGo_step hg (unhide hgo))
          have hgz : Tsh = 0 → g.sh = 0 := fun h => unhide HZ h g (mem_of_get hg)
          have gk := Gl.ok_iff.1 hgk
          have r7 := q7.alloc (.cells #[.int .i64 g.w, .int .i64 g.st, .int .i64 g.sh, .int .i64 g.od] 29)
          have own2 : OwnI _ w.heap.size A' c' acc := World.ownsRow.alloc hown (.cells #[.int .i64 g.w, .int .i64 g.st, .int .i64 g.sh, .int .i64 g.od] 29)
          have hb3 := bmk hb (.cells #[.int .i64 g.w, .int .i64 g.st, .int .i64 g.sh, .int .i64 g.od] 29)
          have qg := Blk.new wr 29 #[.int .i64 g.w, .int .i64 g.st, .int .i64 g.sh, .int .i64 g.od]
          have hpt := part_bd (need := 0) (all := 1) (sgn := 1) (b := b) (u := useOf false Tod g) ⟨by omega, by omega⟩ ⟨by omega, by omega⟩ (by simp) ⟨hb0, by omega⟩ hub
          obtain ⟨G1, G2, G3, G4⟩ := gk
          clear hgo hg hgk hown q7 hb
          go_wp2_with (at_builtin; refine wpList_push_L _ rfl rfl own2 rfl rfl (by simp) (by omega) (by simp; omega) ?_; intro A3 c3 w3 hown3 hg3 ho3 hloc)
          have ownE : OwnI w3 w.heap.size A3 c3 (acc ++ [g.w + (1) * (((0) * (b + useOf false Tod g)).tdiv (1) - ((0) * b).tdiv (1))]) := by
            have hv := val0 g.w (1) (1) b (useOf false Tod g)
            rw [hv]
            simpa using hown3
          have hap3 : (Value.slice A3 (acc ++ [g.w + (1) * (((0) * (b + useOf false Tod g)).tdiv (1) - ((0) * b).tdiv (1))]).length c3).ownBlock ≠ some g7 := hloc g7 _ r7.lt hap
          have s7 := (r7.alloc _).grown hg3 hap.symm
          have hb8 := b_own (bmk hb3 _) ho3 (Nat.le_refl _) hg3
          clear hpt hown3 hg3 ho3
          go_roundw
          case rel => exact ⟨k + 1, A3, c3, _, b + useOf false Tod g, _, by omega, by go_num, rfl, rfl, by omega, by omega, by simp, by simp; exact unhide HAL, hgo2, ownE, hap3, s7, hb8⟩
          case measure => simp [intOf] <;> omega
        · obtain rfl : n = k := by omega
          have H : Hid (X = acc) := by
            have h := unhide hgo
            rw [drop_end (by rw [unhide HLEN]; exact Nat.le_refl _), setGo] at h
            show _ = _; rw [h]; simp
          clear hgo
          go_wp2
          go_quiet (fail)
          go_wp2
          go_ret2
          rw [unhide HXX, unhide H]
          exact ⟨_, _, _, rfl, hown, by first | exact hb | exact bdrewN hb _⟩
    · have HZ2 := hide hz
      have hz1 : 1 ≤ Tst := by omega
      clear hz
      have HX2 : Hid (X = setGo (0) (Tst) (1) (useOf false Tod) 0 gs) := unhide HX _ _ _ _ (by have h0 := unhide HM; have := unhide HMW; have h1 : Tw ≤ width := (by omega); simp [setPar, h1, unhide HZ2]; omega)
      clear HX
      go_wp2
      rw [← unhide HG7]
      clear HG7
      go_loopw [6, 9, 10] (fun o sv i wr => ∃ (k : Nat) (A' : Option Addr) (c' : Nat) (acc : List Int) (b s : Int), k ≤ n ∧ i = .int .i64 k ∧ sv = .int .i64 s ∧ s = 0 ∧ 0 ≤ b ∧ b ≤ 1000 * (k : Int) ∧ o = .slice A' acc.length c' ∧ acc.length = k ∧ Hid (X = acc ++ setGo (0) (Tst) (1) (useOf false Tod) b (gs.drop k)) ∧ OwnI wr w.heap.size A' c' acc ∧ (Value.slice A' acc.length c').ownBlock ≠ some g7 ∧ Blk wr g7 29 #[.int .i64 Tw, .int .i64 Tst, .int .i64 Tsh, .int .i64 Tod] ∧ Below w.heap.size w wr) (fun _ _ i _ => n - (intOf i).toNat)
      case atStart => exact ⟨0, _, 0, [], 0, 0, Nat.zero_le _, rfl, rfl, rfl, by omega, by omega, rfl, rfl, by show _ = _; rw [unhide HX2]; simp, O1, by simp [Value.ownBlock]; omega, q7, hb2⟩
      case round =>
        clear q7 hb2 HX2 O1
        obtain ⟨k, A', c', acc, b, s, hk, rfl, rfl, hsr, hb0, hbk, rfl, hal, hgo, hown, hap, q7, hb⟩ := hrel
        have HAL := hide hal
        have hal2 : acc.length ≤ 60 := by omega
        clear hal
        subst hsr
        have hbs := hb.size
        have c70 : wr.cell? ⟨g7, 0, none⟩ = some (.int .i64 Tw) := q7.cell 0
        have c71 : wr.cell? ⟨g7, 1, none⟩ = some (.int .i64 Tst) := q7.cell 1
        have c72 : wr.cell? ⟨g7, 2, none⟩ = some (.int .i64 Tsh) := q7.cell 2
        have c73 : wr.cell? ⟨g7, 3, none⟩ = some (.int .i64 Tod) := q7.cell 3
        have l7 := q7.lt
        by_cases hlt : k < n
        · obtain ⟨bg, off, g, rfl, hbl, hg, h0, h1, h2, h3⟩ := (hR.next hb).at_ hlt
          have hgk := List.all_eq_true.1 (unhide HOK) g (mem_of_get hg)
          have hub := useOf_bd (neg := false) (od := Tod) hgk
          have hgo2 := hide (setGo_step hg (unhide hgo))
          have hgz : Tsh = 0 → g.sh = 0 := fun h => unhide HZ h g (mem_of_get hg)
          have gk := Gl.ok_iff.1 hgk
          have r7 := q7.alloc (.cells #[.int .i64 g.w, .int .i64 g.st, .int .i64 g.sh, .int .i64 g.od] 29)
          have own2 : OwnI _ w.heap.size A' c' acc := World.ownsRow.alloc hown (.cells #[.int .i64 g.w, .int .i64 g.st, .int .i64 g.sh, .int .i64 g.od] 29)
          have hb3 := bmk hb (.cells #[.int .i64 g.w, .int .i64 g.st, .int .i64 g.sh, .int .i64 g.od] 29)
          have qg := Blk.new wr 29 #[.int .i64 g.w, .int .i64 g.st, .int .i64 g.sh, .int .i64 g.od]
          have hpt := part_bd (need := 0) (all := Tst) (sgn := 1) (b := b) (u := useOf false Tod g) ⟨by omega, by omega⟩ ⟨by omega, by omega⟩ (by simp) ⟨hb0, by omega⟩ hub
          obtain ⟨G1, G2, G3, G4⟩ := gk
          clear hgo hg hgk hown q7 hb
          go_wp2_with (at_builtin; refine wpList_push_L _ rfl rfl own2 rfl rfl (by simp) (by omega) (by simp; omega) ?_; intro A3 c3 w3 hown3 hg3 ho3 hloc)
          have ownE : OwnI w3 w.heap.size A3 c3 (acc ++ [g.w + (1) * (((0) * (b + useOf false Tod g)).tdiv (Tst) - ((0) * b).tdiv (Tst))]) := by
            have hv := val0 g.w (1) (Tst) b (useOf false Tod g)
            rw [hv]
            simpa using hown3
          have hap3 : (Value.slice A3 (acc ++ [g.w + (1) * (((0) * (b + useOf false Tod g)).tdiv (Tst) - ((0) * b).tdiv (Tst))]).length c3).ownBlock ≠ some g7 := hloc g7 _ r7.lt hap
          have s7 := (r7.alloc _).grown hg3 hap.symm
          have hb8 := b_own (bmk hb3 _) ho3 (Nat.le_refl _) hg3
          clear hpt hown3 hg3 ho3
          go_roundw
          case rel => exact ⟨k + 1, A3, c3, _, b + useOf false Tod g, _, by omega, by go_num, rfl, rfl, by omega, by omega, by simp, by simp; exact unhide HAL, hgo2, ownE, hap3, s7, hb8⟩
          case measure => simp [intOf] <;> omega
        · obtain rfl : n = k := by omega
          have H : Hid (X = acc) := by
            have h := unhide hgo
            rw [drop_end (by rw [unhide HLEN]; exact Nat.le_refl _), setGo] at h
            show _ = _; rw [h]; simp
          clear hgo
          go_wp2
          go_quiet (fail)
          go_wp2
          go_ret2
          rw [unhide HXX, unhide H]
          exact ⟨_, _, _, rfl, hown, by first | exact hb | exact bdrewN hb _⟩
  · have hd1 : (more == 0) = false := by simp; omega
    have hd2 : decide (0 < more) = true := by simpa using hm
    have hd3 : decide (more < 0) = false := by simp; omega
    by_cases hz : Tst = 0
    · have hd4 : decide (0 < Tst) = false := by simp; omega
      have HZ2 := hide hz
      clear hz
      have HX2 : Hid (X = setGo (0) (1) (1) (useOf false Tod) 0 gs) := unhide HX _ _ _ _ (by have := unhide HMW; have h1 : Tw ≤ width := (by omega); simp [setPar, h1, unhide HZ2])
      clear HX
      go_wp2
      rw [← unhide HG7]
      clear HG7
      go_loopw [6, 9, 10] (fun o sv i wr => ∃ (k : Nat) (A' : Option Addr) (c' : Nat) (acc : List Int) (b s : Int), k ≤ n ∧ i = .int .i64 k ∧ sv = .int .i64 s ∧ s = 0 ∧ 0 ≤ b ∧ b ≤ 1000 * (k : Int) ∧ o = .slice A' acc.length c' ∧ acc.length = k ∧ Hid (X = acc ++ setGo (0) (1) (1) (useOf false Tod) b (gs.drop k)) ∧ OwnI wr w.heap.size A' c' acc ∧ (Value.slice A' acc.length c').ownBlock ≠ some g7 ∧ Blk wr g7 29 #[.int .i64 Tw, .int .i64 Tst, .int .i64 Tsh, .int .i64 Tod] ∧ Below w.heap.size w wr) (fun _ _ i _ => n - (intOf i).toNat)
      case atStart => exact ⟨0, _, 0, [], 0, 0, Nat.zero_le _, rfl, rfl, rfl, by omega, by omega, rfl, rfl, by show _ = _; rw [unhide HX2]; simp, O1, by simp [Value.ownBlock]; omega, q7, hb2⟩
      case round =>
        clear q7 hb2 HX2 O1
        obtain ⟨k, A', c', acc, b, s, hk, rfl, rfl, hsr, hb0, hbk, rfl, hal, hgo, hown, hap, q7, hb⟩ := hrel
        have HAL := hide hal
        have hal2 : acc.length ≤ 60 := by omega
        clear hal
        subst hsr
        have hbs := hb.size
        have c70 : wr.cell? ⟨g7, 0, none⟩ = some (.int .i64 Tw) := q7.cell 0
        have c71 : wr.cell? ⟨g7, 1, none⟩ = some (.int .i64 Tst) := q7.cell 1
        have c72 : wr.cell? ⟨g7, 2, none⟩ = some (.int .i64 Tsh) := q7.cell 2
        have c73 : wr.cell? ⟨g7, 3, none⟩ = some (.int .i64 Tod) := q7.cell 3
        have l7 := q7.lt
        by_cases hlt : k < n
        · obtain ⟨bg, off, g, rfl, hbl, hg, h0, h1, h2, h3⟩ := (hR.next hb).at_ hlt
          have hgk := List.all_eq_true.1 (unhide HOK) g (mem_of_get hg)
          have hub := useOf_bd (neg := false) (od := Tod) hgk
          have hgo2 := hide (setGo_step hg (unhide hgo))
          have hgz : Tsh = 0 → g.sh = 0 := fun h => unhide HZ h g (mem_of_get hg)
          have gk := Gl.ok_iff.1 hgk
          have r7 := q7.alloc (.cells #[.int .i64 g.w, .int .i64 g.st, .int .i64 g.sh, .int .i64 g.od] 29)
          have own2 : OwnI _ w.heap.size A' c' acc := World.ownsRow.alloc hown (.cells #[.int .i64 g.w, .int .i64 g.st, .int .i64 g.sh, .int .i64 g.od] 29)
          have hb3 := bmk hb (.cells #[.int .i64 g.w, .int .i64 g.st, .int .i64 g.sh, .int .i64 g.od] 29)
          have qg := Blk.new wr 29 #[.int .i64 g.w, .int .i64 g.st, .int .i64 g.sh, .int .i64 g.od]
          have hpt := part_bd (need := 0) (all := 1) (sgn := 1) (b := b) (u := useOf false Tod g) ⟨by omega, by omega⟩ ⟨by omega, by omega⟩ (by simp) ⟨hb0, by omega⟩ hub
          obtain ⟨G1, G2, G3, G4⟩ := gk
          clear hgo hg hgk hown q7 hb
          by_cases ho : g.od = Tod
          case' pos =>
            have ho2 : (g.od == Tod) = true := by simpa using ho
          case' neg =>
            have ho2 : (g.od == Tod) = false := by simpa using ho
          all_goals
            clear ho
            go_wp2_with (at_builtin; refine wpList_push_L _ rfl rfl own2 rfl rfl (by simp) (by omega) (by simp; omega) ?_; intro A3 c3 w3 hown3 hg3 ho3 hloc)
            have ownE : OwnI w3 w.heap.size A3 c3 (acc ++ [g.w + (1) * (((0) * (b + useOf false Tod g)).tdiv (1) - ((0) * b).tdiv (1))]) := by
              have hv := val0 g.w (1) (1) b (useOf false Tod g)
              rw [hv]
              simpa using hown3
            have hap3 : (Value.slice A3 (acc ++ [g.w + (1) * (((0) * (b + useOf false Tod g)).tdiv (1) - ((0) * b).tdiv (1))]).length c3).ownBlock ≠ some g7 := hloc g7 _ r7.lt hap
            have s7 := (r7.alloc _).grown hg3 hap.symm
            have hb8 := b_own (bmk hb3 _) ho3 (Nat.le_refl _) hg3
            clear hpt hown3 hg3 ho3
            go_roundw
            case rel => exact ⟨k + 1, A3, c3, _, b + useOf false Tod g, _, by omega, by go_num, rfl, rfl, by omega, by omega, by simp, by simp; exact unhide HAL, hgo2, ownE, hap3, s7, hb8⟩
            case measure => simp [intOf] <;> omega
        · obtain rfl : n = k := by omega
          have H : Hid (X = acc) := by
            have h := unhide hgo
            rw [drop_end (by rw [unhide HLEN]; exact Nat.le_refl _), setGo] at h
            show _ = _; rw [h]; simp
          clear hgo
          go_wp2
          go_quiet (fail)
          go_wp2
          go_ret2
          rw [unhide HXX, unhide H]
          exact ⟨_, _, _, rfl, hown, by first | exact hb | exact bdrewN hb _⟩
    · have hd4 : decide (0 < Tst) = true := by simp; omega
      have hzz : (Tst == 0) = false := by simpa using hz
      have hz1 : 1 ≤ Tst := by omega
      have HZ2 := hide hz
      clear hz
      have HX2 : Hid (X = setGo (more) (Tst) (1) (useOf false Tod) 0 gs) := unhide HX _ _ _ _ (by have := unhide HMW; have h1 : Tw ≤ width := (by omega); simp [setPar, h1, unhide HZ2]; omega)
      clear HX
      go_wp2
      rw [← unhide HG7]
      clear HG7
      go_loopw [6, 9, 10] (fun o sv i wr => ∃ (k : Nat) (A' : Option Addr) (c' : Nat) (acc : List Int) (b s : Int), k ≤ n ∧ i = .int .i64 k ∧ sv = .int .i64 s ∧ b = s ∧ 0 ≤ b ∧ b ≤ 1000 * (k : Int) ∧ o = .slice A' acc.length c' ∧ acc.length = k ∧ Hid (X = acc ++ setGo (more) (Tst) (1) (useOf false Tod) b (gs.drop k)) ∧ OwnI wr w.heap.size A' c' acc ∧ (Value.slice A' acc.length c').ownBlock ≠ some g7 ∧ Blk wr g7 29 #[.int .i64 Tw, .int .i64 Tst, .int .i64 Tsh, .int .i64 Tod] ∧ Below w.heap.size w wr) (fun _ _ i _ => n - (intOf i).toNat)
      case atStart => exact ⟨0, _, 0, [], 0, 0, Nat.zero_le _, rfl, rfl, rfl, by omega, by omega, rfl, rfl, by show _ = _; rw [unhide HX2]; simp, O1, by simp [Value.ownBlock]; omega, q7, hb2⟩
      case round =>
        clear q7 hb2 HX2 O1
        obtain ⟨k, A', c', acc, b, s, hk, rfl, rfl, hsr, hb0, hbk, rfl, hal, hgo, hown, hap, q7, hb⟩ := hrel
        have HAL := hide hal
        have hal2 : acc.length ≤ 60 := by omega
        clear hal
        subst hsr
        have hbs := hb.size
        have c70 : wr.cell? ⟨g7, 0, none⟩ = some (.int .i64 Tw) := q7.cell 0
        have c71 : wr.cell? ⟨g7, 1, none⟩ = some (.int .i64 Tst) := q7.cell 1
        have c72 : wr.cell? ⟨g7, 2, none⟩ = some (.int .i64 Tsh) := q7.cell 2
        have c73 : wr.cell? ⟨g7, 3, none⟩ = some (.int .i64 Tod) := q7.cell 3
        have l7 := q7.lt
        by_cases hlt : k < n
        · obtain ⟨bg, off, g, rfl, hbl, hg, h0, h1, h2, h3⟩ := (hR.next hb).at_ hlt
          have hgk := List.all_eq_true.1 (unhide HOK) g (mem_of_get hg)
          have hub := useOf_bd (neg := false) (od := Tod) hgk
          have hgo2 := hide (setGo_step hg (unhide hgo))
          have hgz : Tsh = 0 → g.sh = 0 := fun h => unhide HZ h g (mem_of_get hg)
          have gk := Gl.ok_iff.1 hgk
          have r7 := q7.alloc (.cells #[.int .i64 g.w, .int .i64 g.st, .int .i64 g.sh, .int .i64 g.od] 29)
          have own2 : OwnI _ w.heap.size A' c' acc := World.ownsRow.alloc hown (.cells #[.int .i64 g.w, .int .i64 g.st, .int .i64 g.sh, .int .i64 g.od] 29)
          have hb3 := bmk hb (.cells #[.int .i64 g.w, .int .i64 g.st, .int .i64 g.sh, .int .i64 g.od] 29)
          have qg := Blk.new wr 29 #[.int .i64 g.w, .int .i64 g.st, .int .i64 g.sh, .int .i64 g.od]
          have hpt := part_bd (need := more) (all := Tst) (sgn := 1) (b := b) (u := useOf false Tod g) ⟨by omega, by omega⟩ ⟨by omega, by omega⟩ (by simp) ⟨hb0, by omega⟩ hub
          obtain ⟨G1, G2, G3, G4⟩ := gk
          clear hgo hg hgk hown q7 hb
          by_cases ho : g.od = Tod
          · have ho2 : (g.od == Tod) = true := by simpa using ho
            have hu : useOf false Tod g = g.st := by simp [useOf, ho]
            rw [hu] at hpt hub hgo2
            obtain ⟨P1, P2, Q1, Q2, SS⟩ := hpt
            clear ho
            go_wp2
            go_quiet (fail)
            generalize hwq : World.drewN _ _ = wq
            have own5 : OwnI wq w.heap.size A' c' acc := by rw [← hwq]; exact own2
            have r75 : Blk wq g7 29 #[.int .i64 Tw, .int .i64 Tst, .int .i64 Tsh, .int .i64 Tod] := by rw [← hwq]; exact r7
            have qg5 : Blk wq wr.heap.size 29 #[.int .i64 g.w, .int .i64 g.st, .int .i64 g.sh, .int .i64 g.od] := by rw [← hwq]; exact qg
            have hb5 : Below w.heap.size w wq := by rw [← hwq]; exact bdrewN hb3 _
            have hs5 := hb5.size
            have k0 : wq.cell? ⟨wr.heap.size, 0, none⟩ = some (.int .i64 g.w) := qg5.cell 0
            have k1 : wq.cell? ⟨wr.heap.size, 1, none⟩ = some (.int .i64 g.st) := qg5.cell 1
            have k2 : wq.cell? ⟨wr.heap.size, 2, none⟩ = some (.int .i64 g.sh) := qg5.cell 2
            have k3 : wq.cell? ⟨wr.heap.size, 3, none⟩ = some (.int .i64 g.od) := qg5.cell 3
            have c75 : wq.cell? ⟨g7, 2, none⟩ = some (.int .i64 Tsh) := r75.cell 2
            have c76 : wq.cell? ⟨g7, 1, none⟩ = some (.int .i64 Tst) := r75.cell 1
            clear hwq own2 r7 qg hb3
            go_wp2_with (at_builtin; refine wpList_push_L _ rfl rfl own5 rfl rfl (by simp) (by omega) (by omega) ?_; intro A3 c3 w3 hown3 hg3 ho3 hloc)
            have ownE : OwnI w3 w.heap.size A3 c3 (acc ++ [g.w + (1) * (((more) * (b + g.st)).tdiv (Tst) - ((more) * b).tdiv (Tst))]) := by
              simpa using hown3
            have hap3 : (Value.slice A3 (acc ++ [g.w + (1) * (((more) * (b + g.st)).tdiv (Tst) - ((more) * b).tdiv (Tst))]).length c3).ownBlock ≠ some g7 := hloc g7 _ r75.lt hap
            have s7 := (r75.alloc _).grown hg3 hap.symm
            have hb8 := b_own (bmk hb5 _) ho3 (Nat.le_refl _) hg3
            clear hown3 hg3 ho3
            go_roundw
            case rel => exact ⟨k + 1, A3, c3, _, b + g.st, _, by omega, by go_num, rfl, rfl, by omega, by omega, by simp, by simp; exact unhide HAL, hgo2, ownE, hap3, s7, hb8⟩
            case measure => simp [intOf] <;> omega
          · have ho2 : (g.od == Tod) = false := by simpa using ho
            have hu : useOf false Tod g = 0 := by simp [useOf, ho]
            rw [hu] at hpt hub hgo2
            clear ho
            go_wp2_with (at_builtin; refine wpList_push_L _ rfl rfl own2 rfl rfl (by simp) (by omega) (by simp; omega) ?_; intro A3 c3 w3 hown3 hg3 ho3 hloc)
            have ownE : OwnI w3 w.heap.size A3 c3 (acc ++ [g.w + (1) * (((more) * (b + 0)).tdiv (Tst) - ((more) * b).tdiv (Tst))]) := by
              rw [valu]
              simpa using hown3
            have hap3 : (Value.slice A3 (acc ++ [g.w + (1) * (((more) * (b + 0)).tdiv (Tst) - ((more) * b).tdiv (Tst))]).length c3).ownBlock ≠ some g7 := hloc g7 _ r7.lt hap
            have s7 := (r7.alloc _).grown hg3 hap.symm
            have hb8 := b_own (bmk hb3 _) ho3 (Nat.le_refl _) hg3
            clear hpt hown3 hg3 ho3
            go_roundw
            case rel => exact ⟨k + 1, A3, c3, _, b + 0, _, by omega, by go_num, rfl, by omega, by omega, by omega, by simp, by simp; exact unhide HAL, hgo2, ownE, hap3, s7, hb8⟩
            case measure => simp [intOf] <;> omega
        · obtain rfl : n = k := by omega
          have H : Hid (X = acc) := by
            have h := unhide hgo
            rw [drop_end (by rw [unhide HLEN]; exact Nat.le_refl _), setGo] at h
            show _ = _; rw [h]; simp
          clear hgo
          go_wp2
          go_quiet (fail)
          go_wp2
          go_ret2
          rw [unhide HXX, unhide H]
          exact ⟨_, _, _, rfl, hown, by first | exact hb | exact bdrewN hb _⟩
  · have hd1 : (more == 0) = false := by simp; omega
    have hd2 : decide (0 < more) = false := by simp; omega
    have hd3 : decide (more < 0) = true := by simpa using hm
    by_cases hle : -more ≤ Tsh
    · have hd4 : decide (-more ≤ Tsh) = true := by simpa using hle
      have hd5 : decide (Tsh < -more) = false := by simp; omega
      have hzz : (Tsh == 0) = false := by simp; omega
      have hz : ¬ Tsh = 0 := by omega
      have HZ2 := hide hz
      clear hz
      have HX2 : Hid (X = setGo (-more) (Tsh) (-1) (useOf true Tod) 0 gs) := unhide HX _ _ _ _ (by have := unhide HMW; have h1 : ¬ Tw ≤ width := (by omega); simp [setPar, h1, unhide HZ2]; omega)
      clear HX
      go_wp2
      rw [← unhide HG7]
      clear HG7
      go_loopw [6, 9, 10] (fun o sv i wr => ∃ (k : Nat) (A' : Option Addr) (c' : Nat) (acc : List Int) (b s : Int), k ≤ n ∧ i = .int .i64 k ∧ sv = .int .i64 s ∧ b = s ∧ 0 ≤ b ∧ b ≤ 1000 * (k : Int) ∧ o = .slice A' acc.length c' ∧ acc.length = k ∧ Hid (X = acc ++ setGo (-more) (Tsh) (-1) (useOf true Tod) b (gs.drop k)) ∧ OwnI wr w.heap.size A' c' acc ∧ (Value.slice A' acc.length c').ownBlock ≠ some g7 ∧ Blk wr g7 29 #[.int .i64 Tw, .int .i64 Tst, .int .i64 Tsh, .int .i64 Tod] ∧ Below w.heap.size w wr) (fun _ _ i _ => n - (intOf i).toNat)
      case atStart => exact ⟨0, _, 0, [], 0, 0, Nat.zero_le _, rfl, rfl, rfl, by omega, by omega, rfl, rfl, by show _ = _; rw [unhide HX2]; simp, O1, by simp [Value.ownBlock]; omega, q7, hb2⟩
      case round =>
        clear q7 hb2 HX2 O1
        obtain ⟨k, A', c', acc, b, s, hk, rfl, rfl, hsr, hb0, hbk, rfl, hal, hgo, hown, hap, q7, hb⟩ := hrel
        have HAL := hide hal
        have hal2 : acc.length ≤ 60 := by omega
        clear hal
        subst hsr
        have hbs := hb.size
        have c70 : wr.cell? ⟨g7, 0, none⟩ = some (.int .i64 Tw) := q7.cell 0
        have c71 : wr.cell? ⟨g7, 1, none⟩ = some (.int .i64 Tst) := q7.cell 1
        have c72 : wr.cell? ⟨g7, 2, none⟩ = some (.int .i64 Tsh) := q7.cell 2
        have c73 : wr.cell? ⟨g7, 3, none⟩ = some (.int .i64 Tod) := q7.cell 3
        have l7 := q7.lt
        by_cases hlt : k < n
        · obtain ⟨bg, off, g, rfl, hbl, hg, h0, h1, h2, h3⟩ := (hR.next hb).at_ hlt
          have hgk := List.all_eq_true.1 (unhide HOK) g (mem_of_get hg)
          have hub := useOf_bd (neg := true) (od := Tod) hgk
          have hgo2 := hide (setGo_step hg (unhide hgo))
          have hgz : Tsh = 0 → g.sh = 0 := fun h => unhide HZ h g (mem_of_get hg)
          have gk := Gl.ok_iff.1 hgk
          have r7 := q7.alloc (.cells #[.int .i64 g.w, .int .i64 g.st, .int .i64 g.sh, .int .i64 g.od] 29)
          have own2 : OwnI _ w.heap.size A' c' acc := World.ownsRow.alloc hown (.cells #[.int .i64 g.w, .int .i64 g.st, .int .i64 g.sh, .int .i64 g.od] 29)
          have hb3 := bmk hb (.cells #[.int .i64 g.w, .int .i64 g.st, .int .i64 g.sh, .int .i64 g.od] 29)
          have qg := Blk.new wr 29 #[.int .i64 g.w, .int .i64 g.st, .int .i64 g.sh, .int .i64 g.od]
          have hpt := part_bd (need := -more) (all := Tsh) (sgn := -1) (b := b) (u := useOf true Tod g) ⟨by omega, by omega⟩ ⟨by omega, by omega⟩ (by simp) ⟨hb0, by omega⟩ hub
          obtain ⟨G1, G2, G3, G4⟩ := gk
          clear hgo hg hgk hown q7 hb
          have hu : useOf true Tod g = g.sh := by simp [useOf]
          rw [hu] at hpt hub hgo2
          obtain ⟨P1, P2, Q1, Q2, SS⟩ := hpt
          go_wp2
          go_quiet (fail)
          generalize hwq : World.drewN _ _ = wq
          have own5 : OwnI wq w.heap.size A' c' acc := by rw [← hwq]; exact own2
          have r75 : Blk wq g7 29 #[.int .i64 Tw, .int .i64 Tst, .int .i64 Tsh, .int .i64 Tod] := by rw [← hwq]; exact r7
          have qg5 : Blk wq wr.heap.size 29 #[.int .i64 g.w, .int .i64 g.st, .int .i64 g.sh, .int .i64 g.od] := by rw [← hwq]; exact qg
          have hb5 : Below w.heap.size w wq := by rw [← hwq]; exact bdrewN hb3 _
          have hs5 := hb5.size
          have k0 : wq.cell? ⟨wr.heap.size, 0, none⟩ = some (.int .i64 g.w) := qg5.cell 0
          have k1 : wq.cell? ⟨wr.heap.size, 1, none⟩ = some (.int .i64 g.st) := qg5.cell 1
          have k2 : wq.cell? ⟨wr.heap.size, 2, none⟩ = some (.int .i64 g.sh) := qg5.cell 2
          have k3 : wq.cell? ⟨wr.heap.size, 3, none⟩ = some (.int .i64 g.od) := qg5.cell 3
          have c75 : wq.cell? ⟨g7, 2, none⟩ = some (.int .i64 Tsh) := r75.cell 2
          have c76 : wq.cell? ⟨g7, 1, none⟩ = some (.int .i64 Tst) := r75.cell 1
          clear hwq own2 r7 qg hb3
          go_wp2_with (at_builtin; refine wpList_push_L _ rfl rfl own5 rfl rfl (by simp) (by omega) (by omega) ?_; intro A3 c3 w3 hown3 hg3 ho3 hloc)
          have ownE : OwnI w3 w.heap.size A3 c3 (acc ++ [g.w + (-1) * (((-more) * (b + g.sh)).tdiv (Tsh) - ((-more) * b).tdiv (Tsh))]) := by
            simpa using hown3
          have hap3 : (Value.slice A3 (acc ++ [g.w + (-1) * (((-more) * (b + g.sh)).tdiv (Tsh) - ((-more) * b).tdiv (Tsh))]).length c3).ownBlock ≠ some g7 := hloc g7 _ r75.lt hap
          have s7 := (r75.alloc _).grown hg3 hap.symm
          have hb8 := b_own (bmk hb5 _) ho3 (Nat.le_refl _) hg3
          clear hown3 hg3 ho3
          go_roundw
          case rel => exact ⟨k + 1, A3, c3, _, b + g.sh, _, by omega, by go_num, rfl, rfl, by omega, by omega, by simp, by simp; exact unhide HAL, hgo2, ownE, hap3, s7, hb8⟩
          case measure => simp [intOf] <;> omega
        · obtain rfl : n = k := by omega
          have H : Hid (X = acc) := by
            have h := unhide hgo
            rw [drop_end (by rw [unhide HLEN]; exact Nat.le_refl _), setGo] at h
            show _ = _; rw [h]; simp
          clear hgo
          go_wp2
          go_quiet (fail)
          go_wp2
          go_ret2
          rw [unhide HXX, unhide H]
          exact ⟨_, _, _, rfl, hown, by first | exact hb | exact bdrewN hb _⟩
    · have hd4 : decide (-more ≤ Tsh) = false := by simp; omega
      have hd5 : decide (Tsh < -more) = true := by simp; omega
      by_cases hz : Tsh = 0
      · have HZ2 := hide hz
        clear hz
        have HX2 : Hid (X = setGo (0) (1) (-1) (useOf true Tod) 0 gs) := unhide HX _ _ _ _ (by have := unhide HMW; have h1 : ¬ Tw ≤ width := (by omega); simp [setPar, h1, unhide HZ2])
        clear HX
        go_wp2
        rw [← unhide HG7]
        clear HG7
        go_loopw [6, 9, 10] (fun o sv i wr => ∃ (k : Nat) (A' : Option Addr) (c' : Nat) (acc : List Int) (b s : Int), k ≤ n ∧ i = .int .i64 k ∧ sv = .int .i64 s ∧ s = 0 ∧ 0 ≤ b ∧ b ≤ 1000 * (k : Int) ∧ o = .slice A' acc.length c' ∧ acc.length = k ∧ Hid (X = acc ++ setGo (0) (1) (-1) (useOf true Tod) b (gs.drop k)) ∧ OwnI wr w.heap.size A' c' acc ∧ (Value.slice A' acc.length c').ownBlock ≠ some g7 ∧ Blk wr g7 29 #[.int .i64 Tw, .int .i64 Tst, .int .i64 Tsh, .int .i64 Tod] ∧ Below w.heap.size w wr) (fun _ _ i _ => n - (intOf i).toNat)
        case atStart => exact ⟨0, _, 0, [], 0, 0, Nat.zero_le _, rfl, rfl, rfl, by omega, by omega, rfl, rfl, by show _ = _; rw [unhide HX2]; simp, O1, by simp [Value.ownBlock]; omega, q7, hb2⟩
        case round =>
          clear q7 hb2 HX2 O1
          obtain ⟨k, A', c', acc, b, s, hk, rfl, rfl, hsr, hb0, hbk, rfl, hal, hgo, hown, hap, q7, hb⟩ := hrel
          have HAL := hide hal
          have hal2 : acc.length ≤ 60 := by omega
          clear hal
          subst hsr
          have hbs := hb.size
          have c70 : wr.cell? ⟨g7, 0, none⟩ = some (.int .i64 Tw) := q7.cell 0
          have c71 : wr.cell? ⟨g7, 1, none⟩ = some (.int .i64 Tst) := q7.cell 1
          have c72 : wr.cell? ⟨g7, 2, none⟩ = some (.int .i64 Tsh) := q7.cell 2
          have c73 : wr.cell? ⟨g7, 3, none⟩ = some (.int .i64 Tod) := q7.cell 3
          have l7 := q7.lt
          by_cases hlt : k < n
          · obtain ⟨bg, off, g, rfl, hbl, hg, h0, h1, h2, h3⟩ := (hR.next hb).at_ hlt
            have hgk := List.all_eq_true.1 (unhide HOK) g (mem_of_get hg)
            have hub := useOf_bd (neg := true) (od := Tod) hgk
            have hgo2 := hide (setGo_step hg (unhide hgo))
            have hgz : Tsh = 0 → g.sh = 0 := fun h => unhide HZ h g (mem_of_get hg)
            have gk := Gl.ok_iff.1 hgk
            have r7 := q7.alloc (.cells #[.int .i64 g.w, .int .i64 g.st, .int .i64 g.sh, .int .i64 g.od] 29)
            have own2 : OwnI _ w.heap.size A' c' acc := World.ownsRow.alloc hown (.cells #[.int .i64 g.w, .int .i64 g.st, .int .i64 g.sh, .int .i64 g.od] 29)
            have hb3 := bmk hb (.cells #[.int .i64 g.w, .int .i64 g.st, .int .i64 g.sh, .int .i64 g.od] 29)
            have qg := Blk.new wr 29 #[.int .i64 g.w, .int .i64 g.st, .int .i64 g.sh, .int .i64 g.od]
            have hpt := part_bd (need := 0) (all := 1) (sgn := -1) (b := b) (u := useOf true Tod g) ⟨by omega, by omega⟩ ⟨by omega, by omega⟩ (by simp) ⟨hb0, by omega⟩ hub
            obtain ⟨G1, G2, G3, G4⟩ := gk
            clear hgo hg hgk hown q7 hb
            have hg0 := hgz (unhide HZ2)
            have HG0 := hide hg0
            clear hg0 hgz
            go_wp2_with (at_builtin; refine wpList_push_L _ rfl rfl own2 rfl rfl (by simp) (by omega) (by simp; omega) ?_; intro A3 c3 w3 hown3 hg3 ho3 hloc)
            have ownE : OwnI w3 w.heap.size A3 c3 (acc ++ [g.w + (-1) * (((0) * (b + useOf true Tod g)).tdiv (1) - ((0) * b).tdiv (1))]) := by
              rw [val0]
              rw [unhide HG0] at hown3
              simpa using hown3
            have hap3 : (Value.slice A3 (acc ++ [g.w + (-1) * (((0) * (b + useOf true Tod g)).tdiv (1) - ((0) * b).tdiv (1))]).length c3).ownBlock ≠ some g7 := hloc g7 _ r7.lt hap
            have s7 := (r7.alloc _).grown hg3 hap.symm
            have hb8 := b_own (bmk hb3 _) ho3 (Nat.le_refl _) hg3
            clear hpt hown3 hg3 ho3
            go_roundw
            case rel => exact ⟨k + 1, A3, c3, _, b + useOf true Tod g, _, by omega, by go_num, rfl, rfl, by omega, by omega, by simp, by simp; exact unhide HAL, hgo2, ownE, hap3, s7, hb8⟩
            case measure => simp [intOf] <;> omega
          · obtain rfl : n = k := by omega
            have H : Hid (X = acc) := by
              have h := unhide hgo
              rw [drop_end (by rw [unhide HLEN]; exact Nat.le_refl _), setGo] at h
              show _ = _; rw [h]; simp
            clear hgo
            go_wp2
            go_quiet (fail)
            go_wp2
            go_ret2
            rw [unhide HXX, unhide H]
            exact ⟨_, _, _, rfl, hown, by first | exact hb | exact bdrewN hb _⟩
      · have HZ2 := hide hz
        have hz1 : 1 ≤ Tsh := by omega
        clear hz
        have HX2 : Hid (X = setGo (Tsh) (Tsh) (-1) (useOf true Tod) 0 gs) := unhide HX _ _ _ _ (by have := unhide HMW; have h1 : ¬ Tw ≤ width := (by omega); simp [setPar, h1, unhide HZ2]; omega)
        clear HX
        go_wp2
        rw [← unhide HG7]
        clear HG7
        go_loopw [6, 9, 10] (fun o sv i wr => ∃ (k : Nat) (A' : Option Addr) (c' : Nat) (acc : List Int) (b s : Int), k ≤ n ∧ i = .int .i64 k ∧ sv = .int .i64 s ∧ s = 0 ∧ 0 ≤ b ∧ b ≤ 1000 * (k : Int) ∧ o = .slice A' acc.length c' ∧ acc.length = k ∧ Hid (X = acc ++ setGo (Tsh) (Tsh) (-1) (useOf true Tod) b (gs.drop k)) ∧ OwnI wr w.heap.size A' c' acc ∧ (Value.slice A' acc.length c').ownBlock ≠ some g7 ∧ Blk wr g7 29 #[.int .i64 Tw, .int .i64 Tst, .int .i64 Tsh, .int .i64 Tod] ∧ Below w.heap.size w wr) (fun _ _ i _ => n - (intOf i).toNat)
        case atStart => exact ⟨0, _, 0, [], 0, 0, Nat.zero_le _, rfl, rfl, rfl, by omega, by omega, rfl, rfl, by show _ = _; rw [unhide HX2]; simp, O1, by simp [Value.ownBlock]; omega, q7, hb2⟩
        case round =>
          clear q7 hb2 HX2 O1
          obtain ⟨k, A', c', acc, b, s, hk, rfl, rfl, hsr, hb0, hbk, rfl, hal, hgo, hown, hap, q7, hb⟩ := hrel
          have HAL := hide hal
          have hal2 : acc.length ≤ 60 := by omega
          clear hal
          subst hsr
          have hbs := hb.size
          have c70 : wr.cell? ⟨g7, 0, none⟩ = some (.int .i64 Tw) := q7.cell 0
          have c71 : wr.cell? ⟨g7, 1, none⟩ = some (.int .i64 Tst) := q7.cell 1
          have c72 : wr.cell? ⟨g7, 2, none⟩ = some (.int .i64 Tsh) := q7.cell 2
          have c73 : wr.cell? ⟨g7, 3, none⟩ = some (.int .i64 Tod) := q7.cell 3
          have l7 := q7.lt
          by_cases hlt : k < n
          · obtain ⟨bg, off, g, rfl, hbl, hg, h0, h1, h2, h3⟩ := (hR.next hb).at_ hlt
            have hgk := List.all_eq_true.1 (unhide HOK) g (mem_of_get hg)
            have hub := useOf_bd (neg := true) (od := Tod) hgk
            have hgo2 := hide (setGo_step hg (unhide hgo))
            have hgz : Tsh = 0 → g.sh = 0 := fun h => unhide HZ h g (mem_of_get hg)
            have gk := Gl.ok_iff.1 hgk
            have r7 := q7.alloc (.cells #[.int .i64 g.w, .int .i64 g.st, .int .i64 g.sh, .int .i64 g.od] 29)
            have own2 : OwnI _ w.heap.size A' c' acc := World.ownsRow.alloc hown (.cells #[.int .i64 g.w, .int .i64 g.st, .int .i64 g.sh, .int .i64 g.od] 29)
            have hb3 := bmk hb (.cells #[.int .i64 g.w, .int .i64 g.st, .int .i64 g.sh, .int .i64 g.od] 29)
            have qg := Blk.new wr 29 #[.int .i64 g.w, .int .i64 g.st, .int .i64 g.sh, .int .i64 g.od]
            have hpt := part_bd (need := Tsh) (all := Tsh) (sgn := -1) (b := b) (u := useOf true Tod g) ⟨by omega, by omega⟩ ⟨by omega, by omega⟩ (by simp) ⟨hb0, by omega⟩ hub
            obtain ⟨G1, G2, G3, G4⟩ := gk
            clear hgo hg hgk hown q7 hb
            have hu : useOf true Tod g = g.sh := by simp [useOf]
            rw [hu] at hpt hub hgo2
            go_wp2_with (at_builtin; refine wpList_push_L _ rfl rfl own2 rfl rfl (by simp) (by omega) (by simp; omega) ?_; intro A3 c3 w3 hown3 hg3 ho3 hloc)
            have ownE : OwnI w3 w.heap.size A3 c3 (acc ++ [g.w + (-1) * (((Tsh) * (b + g.sh)).tdiv (Tsh) - ((Tsh) * b).tdiv (Tsh))]) := by
              rw [vals _ _ _ _ hz1]
              simpa using hown3
            have hap3 : (Value.slice A3 (acc ++ [g.w + (-1) * (((Tsh) * (b + g.sh)).tdiv (Tsh) - ((Tsh) * b).tdiv (Tsh))]).length c3).ownBlock ≠ some g7 := hloc g7 _ r7.lt hap
            have s7 := (r7.alloc _).grown hg3 hap.symm
            have hb8 := b_own (bmk hb3 _) ho3 (Nat.le_refl _) hg3
            clear hpt hown3 hg3 ho3
            go_roundw
            case rel => exact ⟨k + 1, A3, c3, _, b + g.sh, _, by omega, by go_num, rfl, rfl, by omega, by omega, by simp, by simp; exact unhide HAL, hgo2, ownE, hap3, s7, hb8⟩
            case measure => simp [intOf] <;> omega
          · obtain rfl : n = k := by omega
            have H : Hid (X = acc) := by
              have h := unhide hgo
              rw [drop_end (by rw [unhide HLEN]; exact Nat.le_refl _), setGo] at h
              show _ = _; rw [h]; simp
            clear hgo
            go_wp2
            go_quiet (fail)
            go_wp2
            go_ret2
            rw [unhide HXX, unhide H]
            exact ⟨_, _, _, rfl, hown, by first | exact hb | exact bdrewN hb _⟩
end Go.Proofs.Ytlklkloadefihaa
