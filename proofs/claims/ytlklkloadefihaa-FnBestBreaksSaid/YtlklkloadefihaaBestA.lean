/- The chooser's best: contract. No condition. -/
import Derived.Test.YtlklkloadefihaaMc
import Derived.BigQuiet
import Derived.Deep.QuietTactic
import Derived.Deep.RegionLaw
import Derived.Deep.RegionHeld3
namespace Go.Proofs.Ytlklkloadefihaa
open Go.RowKit
set_option linter.unusedVariables false

theorem ch_next {w0 w w' : World} {row : Option Nat} (h : w0.grownBy w row) (hb : Below w.heap.size w w') : w0.grownBy w' row :=
  ⟨hb.os.trans h.os, hb.tape.trans h.tape, hb.output.trans h.output, Nat.le_trans h.size hb.size, fun i hi hne => (hb.block i (Nat.lt_of_lt_of_le hi h.size)).trans (h.block i hi hne)⟩
theorem ch_trans {w0 w w' : World} {row : Option Nat} (h : w0.grownBy w row) (k : w.grownBy w' row) : w0.grownBy w' row :=
  ⟨k.os.trans h.os, k.tape.trans h.tape, k.output.trans h.output, Nat.le_trans h.size k.size, fun i hi hne => (k.block i (Nat.lt_of_lt_of_le hi h.size) hne).trans (h.block i hi hne)⟩
theorem ch_set {w0 w : World} {row : Option Nat} (h : w0.grownBy w row) {p : Addr} (hp : w0.heap.size ≤ p.block) (u : Value) : w0.grownBy (w.setCell p u) row :=
  ⟨h.os, h.tape, h.output, by simpa [World.setCell] using h.size, fun i hi hne => (Below.heap_setCell w p u i (by rintro rfl; omega)).trans (h.block i hi hne)⟩
theorem blk_ne {rs : List Item} {width most : Int} {A : Option Addr} {n c gC bm cnt g : Nat} {w : World} {t : TypeId} {cs : Array Value} (hM : ChM rs width most A n c gC bm cnt w) (h : Blk w g t cs) : some g ≠ some bm := by
  obtain ⟨D, ⟨es, clock, hb, _⟩, _⟩ := hM.map
  intro e
  injection e with e
  subst e
  unfold Blk at h
  rw [hb] at h
  cases h
/-- A cell of another block is written: the chooser stays what it is. -/
theorem ChM.put {rs : List Item} {width most : Int} {A : Option Addr} {n c gC bm cnt : Nat} {w : World} (h : ChM rs width most A n c gC bm cnt w) {p : Addr} (h1 : gC ≠ p.block) (h2 : bm ≠ p.block) (h3 : ∀ b off, A = some ⟨b, off, none⟩ → b ≠ p.block) (u : Value) : ChM rs width most A n c gC bm cnt (w.setCell p u) := by
  obtain ⟨D, hm, ok⟩ := h.map
  refine ⟨⟨⟨Rd.len h.items.1, fun hn => ?_⟩, h.items.2⟩, h.blk.far h1 u, D, hm.setCell h2 u, ok⟩
  obtain ⟨b, off, e, hl, hc⟩ := Rd.cells h.items.1 hn
  refine ⟨b, off, e, by simpa [World.setCell] using hl, fun j v hv => ?_⟩
  rw [← hc j v hv]
  exact World.cell?_of_block (Below.heap_setCell w p u b (h3 b off e))
theorem Blk.congr' {w : World} {g : Nat} {t : TypeId} {c : Ch} {a b d : Int} {m : Bool} (h : Blk w g t #[.int .i64 a, .int .i64 b, .bool m, .int .i64 d]) (e : Hid (c = ⟨a, ⟨b, m, d⟩⟩)) : Blk w g t #[.int .i64 c.cost, .int .i64 c.nx.at_, .bool c.nx.mark, .int .i64 c.nx.looks] := by
  have := unhide e; subst this; exact h
theorem regS {w' : World} {gC g3 n c : Nat} {A : Option Addr} {width most sa sl : Int} {sk : Bool} {u3 : Value} (hb : Blk w' gC 77 #[.slice A n c, .int .i64 width, .int .i64 most, u3]) (k : Blk w' g3 71 #[.int .i64 sa, .bool sk, .int .i64 sl]) :
    w'.cell? ⟨gC, 0, none⟩ = some (.slice A n c) ∧ w'.cell? ⟨gC, 1, none⟩ = some (.int .i64 width) ∧ w'.cell? ⟨gC, 2, none⟩ = some (.int .i64 most) ∧ w'.cell? ⟨g3, 0, none⟩ = some (.int .i64 sa) ∧ w'.cell? ⟨g3, 1, none⟩ = some (.bool sk) ∧ w'.cell? ⟨g3, 2, none⟩ = some (.int .i64 sl) :=
  ⟨hb.cell 0, hb.cell 1, hb.cell 2, k.cell 0, k.cell 1, k.cell 2⟩
set_option maxRecDepth 100000 in
set_option maxHeartbeats 6400000 in
theorem c_chBest (rs : List Item) (width most : Int) (A : Option Addr) (n c gC bm : Nat) (hv : itemsValid rs = true) (hl : rs.length = n) (hn0 : 0 < n) (d : Nat) :
    ∀ (sa : Int) (sk : Bool) (sl : Int) (cnt : Nat) (w : World), -1 ≤ sa → sa < n → 0 ≤ sl → sl ≤ 3 → left rs ⟨sa, sk, sl⟩ ≤ d → cnt + 2 ^ left rs ⟨sa, sk, sl⟩ ≤ 2305843009213693952 → ChM rs width most A n c gC bm cnt w →
    Calls Try.prog 56 #[.pointer (some ⟨gC, 0, none⟩), .agg #[.int .i64 sa, .bool sk, .int .i64 sl]] w fun e w' => e = .returned (best rs width most ⟨sa, sk, sl⟩).val ∧ ∃ cnt', cnt' ≤ cnt + 2 ^ left rs ⟨sa, sk, sl⟩ ∧ ChM rs width most A n c gC bm cnt' w' ∧ w.grownBy w' (some bm) := by
  have hn60 := (itemsValid_iff.1 hv).2
  rw [hl] at hn60
  have HV := hide hv
  have HLEN := hide hl
  clear hv hl
  induction d using Nat.strongRecOn with
  | ind d ih =>
    intro sa sk sl cnt w h1 h2 h3 h4 h5 h6 hM
    have HIH := hide (fun (sa' : Int) (sk' : Bool) (sl' : Int) (cnt' : Nat) (w' : World) (a1 : -1 ≤ sa') (a2 : sa' < n) (a3 : 0 ≤ sl') (a4 : sl' ≤ 3) (a5 : left rs ⟨sa', sk', sl'⟩ < left rs ⟨sa, sk, sl⟩) a6 a7 => ih (left rs ⟨sa', sk', sl'⟩) (Nat.lt_of_lt_of_le a5 h5) sa' sk' sl' cnt' w' a1 a2 a3 a4 (Nat.le_refl _) a6 a7)
    clear ih
    have hP1 : 1 ≤ 2 ^ left rs ⟨sa, sk, sl⟩ := Nat.one_le_two_pow
    obtain ⟨P, HP⟩ : ∃ P, Hid (2 ^ left rs ⟨sa, sk, sl⟩ = P) := ⟨_, hide rfl⟩
    rw [unhide HP] at h6 hP1 ⊢
    have hbd := hM.items.bd
    have q3 := (Blk.new w 71 #[.int .i64 sa, .bool sk, .int .i64 sl]).alloc (.cells #[.int .i64 0, .int .i64 0, .bool false, .int .i64 0] 79)
    have q4 := Blk.new (w.alloc (.cells #[.int .i64 sa, .bool sk, .int .i64 sl] 71)) 79 #[.int .i64 0, .int .i64 0, .bool false, .int .i64 0]
    have hb0 := bmk (bof w (.cells #[.int .i64 sa, .bool sk, .int .i64 sl] 71)) (.cells #[.int .i64 0, .int .i64 0, .bool false, .int .i64 0] 79)
    simp only [size_alloc'] at q4
    have hC := hM.blk
    have hgC := hC.lt
    have C0 : w.cell? ⟨gC, 0, none⟩ = some (.slice A n c) := hC.cell 0
    have C1 : w.cell? ⟨gC, 1, none⟩ = some (.int .i64 width) := hC.cell 1
    have C2 : w.cell? ⟨gC, 2, none⟩ = some (.int .i64 most) := hC.cell 2
    have C3 : w.cell? ⟨gC, 3, none⟩ = some (.map (some bm)) := hC.cell 3
    have hM0 := hM.next hb0
    go_enter Try.func56, Try.ntmps56
    by_cases hat : sa = (n : Int) - 1
    · have hat' : (sa == (n : Int) - 1) = true := by simpa using hat
      have HB : Hid (best rs width most ⟨sa, sk, sl⟩ = Ch.zero) := best_end (by rw [unhide HLEN]; exact hat)
      clear hat
      go_wp2
      go_quiet (fail)
      generalize hwq : World.drewN _ _ = wq
      have k4 : Blk wq (w.heap.size + 1) 79 #[.int .i64 0, .int .i64 0, .bool false, .int .i64 0] := by rw [← hwq]; exact q4
      have hb4 : Below w.heap.size w wq := by rw [← hwq]; exact bdrewN hb0 _
      have z0 := k4.cell 0
      have z1 := k4.cell 1
      have z2 := k4.cell 2
      have z3 := k4.cell 3
      have y0 := k4.frozen 0
      have y1 := k4.frozen 1
      have y2 := k4.frozen 2
      have y3 := k4.frozen 3
      clear hwq q3 q4 hb0 C0 C1 C2 C3 hM0 hC k4
      go_wp2
      rw [unhide HB]
      refine bodyPost_ret (v := Ch.zero.val) (by simp [results, Try.results56, go_sem, Ch.zero, Ch.val, St.zero, *]) rfl ⟨rfl, cnt, by omega, ?_⟩
      have hB : Below w.heap.size w ((((wq.setCell ⟨w.heap.size + 1, 0, none⟩ (.int .i64 0)).setCell ⟨w.heap.size + 1, 1, none⟩ (.int .i64 0)).setCell ⟨w.heap.size + 1, 2, none⟩ (.bool false)).setCell ⟨w.heap.size + 1, 3, none⟩ (.int .i64 0)) := by
        repeat (refine Below.setCell ?_ (by dsimp only; omega) _)
        exact hb4
      exact ⟨hM.next hB, ⟨hB.os, hB.tape, hB.output, hB.size, fun i hi _ => hB.block i hi⟩⟩
    · have hat' : (sa == (n : Int) - 1) = false := by simpa using hat
      go_wp2
      go_quiet (fail)
      generalize hwq : World.drewN _ _ = wq
      have k3 : Blk wq w.heap.size 71 #[.int .i64 sa, .bool sk, .int .i64 sl] := by rw [← hwq]; exact q3
      have k4 : Blk wq (w.heap.size + 1) 79 #[.int .i64 0, .int .i64 0, .bool false, .int .i64 0] := by rw [← hwq]; exact q4
      have hb4 : Below w.heap.size w wq := by rw [← hwq]; exact bdrewN hb0 _
      have hM1 := hM.next hb4
      have hWf : St.Wf ⟨sa, sk, sl⟩ := ⟨h1, by dsimp only; omega, h3, h4⟩
      have hgC1 := hM1.blk.lt
      have e0 : wq.cell? ⟨gC, 0, none⟩ = some (.slice A n c) := hM1.blk.cell 0
      have e3 : wq.cell? ⟨gC, 3, none⟩ = some (.map (some bm)) := hM1.blk.cell 3
      have s0 : wq.cell? ⟨w.heap.size, 0, none⟩ = some (.int .i64 sa) := k3.cell 0
      have s1 : wq.cell? ⟨w.heap.size, 1, none⟩ = some (.bool sk) := k3.cell 1
      have s2 : wq.cell? ⟨w.heap.size, 2, none⟩ = some (.int .i64 sl) := k3.cell 2
      have l3 := k3.lt
      have l4 := k4.lt
      have hsq := hb4.size
      clear hwq q3 q4 hb0 C0 C1 C2 C3 hM0 hC
      obtain ⟨D, hmap, hok⟩ := hM1.map
      have hmd := map_next hmap (Below.refl wq.heap.size wq).drew
      have hma := map_next hmap (bof wq (.cells #[.int .i64 0, .int .i64 0, .bool false, .int .i64 0] 79)).drew
      cases hhas : Maps.has D (keyF ⟨sa, sk, sl⟩)
      case' true =>
        obtain ⟨bc, HBC⟩ : ∃ bc, Hid (best rs width most ⟨sa, sk, sl⟩ = bc) := ⟨_, rfl⟩
        have hrun := look_yes hmd hok hWf hhas
        have hrun2 := look_yes hma hok hWf hhas
        rw [unhide HBC] at hrun hrun2
        obtain ⟨bc0, ba, bk, bl⟩ := bc
        simp only [Ch.val, St.val] at hrun hrun2
        clear hhas hmap hok hmd hma
        go_wp2
        go_region
        all_goals
          have hb5 := (bmk hb4 (.cells #[.int .i64 bc0, .int .i64 ba, .bool bk, .int .i64 bl] 79)).drew
          have k5 := (k4.alloc (.cells #[.int .i64 bc0, .int .i64 ba, .bool bk, .int .i64 bl] 79)).drew
          have k6 := (Blk.new wq 79 #[.int .i64 bc0, .int .i64 ba, .bool bk, .int .i64 bl]).drew
          generalize hwx : World.drew _ = wx at hb5 k5 k6 ⊢
          have z0 := k5.cell 0
          have z1 := k5.cell 1
          have z2 := k5.cell 2
          have z3 := k5.cell 3
          have y0 := k5.frozen 0
          have y1 := k5.frozen 1
          have y2 := k5.frozen 2
          have y3 := k5.frozen 3
          have x0 : wx.cell? ⟨wq.heap.size, 0, none⟩ = some (.int .i64 bc0) := k6.cell 0
          have x1 : wx.cell? ⟨wq.heap.size, 1, none⟩ = some (.int .i64 ba) := k6.cell 1
          have x2 : wx.cell? ⟨wq.heap.size, 2, none⟩ = some (.bool bk) := k6.cell 2
          have x3 : wx.cell? ⟨wq.heap.size, 3, none⟩ = some (.int .i64 bl) := k6.cell 3
          clear hwx k5 k6 hrun hrun2 e0 e3 s0 s1 s2 k3 k4 hM1
          go_wp2
          rw [unhide HBC]
          refine bodyPost_ret (v := .agg #[.int .i64 bc0, .int .i64 ba, .bool bk, .int .i64 bl]) (by simp [results, Try.results56, go_sem, *]) rfl ⟨rfl, cnt, by omega, ?_⟩
          have hB : Below w.heap.size w ((((wx.setCell ⟨w.heap.size + 1, 0, none⟩ (.int .i64 bc0)).setCell ⟨w.heap.size + 1, 1, none⟩ (.int .i64 ba)).setCell ⟨w.heap.size + 1, 2, none⟩ (.bool bk)).setCell ⟨w.heap.size + 1, 3, none⟩ (.int .i64 bl)) := by
            repeat (refine Below.setCell ?_ (by dsimp only; omega) _)
            exact hb5
          exact ⟨hM.next hB, ⟨hB.os, hB.tape, hB.output, hB.size, fun i hi _ => hB.block i hi⟩⟩
      case' false =>
        have hrun := look_no hmd hok hWf hhas
        have hrun2 := look_no hma hok hWf hhas
        simp only [Ch.val, St.val, Ch.zero, St.zero] at hrun hrun2
        clear hhas hmap hok hmd hma
        go_wp2
        go_region
        all_goals
          have hb5 := (bmk hb4 (.cells #[.int .i64 0, .int .i64 0, .bool false, .int .i64 0] 79)).drew
          have k34 := (k3.alloc (.cells #[.int .i64 0, .int .i64 0, .bool false, .int .i64 0] 79)).drew
          have k5 := (k4.alloc (.cells #[.int .i64 0, .int .i64 0, .bool false, .int .i64 0] 79)).drew
          generalize hwx : World.drew _ = wx at hb5 k34 k5 ⊢
          have hM2 := hM.next hb5
          have e0 : wx.cell? ⟨gC, 0, none⟩ = some (.slice A n c) := hM2.blk.cell 0
          have hsx := hb5.size
          have l3x := k34.lt
          have l4x := k5.lt
          have lCx := hM2.blk.lt
          clear hwx hrun hrun2 e3 s0 s1 s2 k3 k4 hM1 l3 l4 hgC1 hb4
          go_wp2
          have k7 := Blk.new wx 79 #[.int .i64 (-1), .int .i64 0, .bool false, .int .i64 0]
          have k37 := k34.alloc (.cells #[.int .i64 (-1), .int .i64 0, .bool false, .int .i64 0] 79)
          have k47 := k5.alloc (.cells #[.int .i64 (-1), .int .i64 0, .bool false, .int .i64 0] 79)
          have hM7 := hM2.next (bof wx (.cells #[.int .i64 (-1), .int .i64 0, .bool false, .int .i64 0] 79))
          have hb7 := bmk hb5 (.cells #[.int .i64 (-1), .int .i64 0, .bool false, .int .i64 0] 79)
          have hg7 : w.grownBy (wx.alloc (.cells #[.int .i64 (-1), .int .i64 0, .bool false, .int .i64 0] 79)) (some bm) := ⟨hb7.os, hb7.tape, hb7.output, hb7.size, fun i hi _ => hb7.block i hi⟩
          obtain ⟨g7, HG7⟩ : ∃ g, Hid (g = wx.heap.size) := ⟨_, rfl⟩
          rw [← unhide HG7] at k7 ⊢
          have hg7w : w.heap.size ≤ g7 := by rw [unhide HG7]; exact hsx
          have hg7b : w.heap.size + 1 < g7 := by rw [unhide HG7]; exact l4x
          obtain ⟨LS, HLS⟩ : ∃ x, Hid (left rs ⟨sa, sk, sl⟩ = x) := ⟨_, rfl⟩
          have hLS : (LS : Int) = (n : Int) - 1 - sa := by rw [← unhide HLS]; unfold left; dsimp only; rw [unhide HLEN]; omega
          clear hM2 hb5 k34 k5 e0 hb7 HG7
          go_loopw [8] (fun i wr => ∃ (j cj : Nat), j ≤ LS ∧ i = .int .i64 ((n : Int) - 1 - (j : Int)) ∧ cj + 1 ≤ cnt + 2 ^ j ∧ Blk wr g7 79 #[.int .i64 (accN rs width most (best rs width most) ⟨sa, sk, sl⟩ j).cost, .int .i64 (accN rs width most (best rs width most) ⟨sa, sk, sl⟩ j).nx.at_, .bool (accN rs width most (best rs width most) ⟨sa, sk, sl⟩ j).nx.mark, .int .i64 (accN rs width most (best rs width most) ⟨sa, sk, sl⟩ j).nx.looks] ∧ Blk wr w.heap.size 71 #[.int .i64 sa, .bool sk, .int .i64 sl] ∧ Blk wr (w.heap.size + 1) 79 #[.int .i64 0, .int .i64 0, .bool false, .int .i64 0] ∧ ChM rs width most A n c gC bm cj wr ∧ w.grownBy wr (some bm)) (fun i _ => (intOf i + 1).toNat)
          case atStart => exact ⟨0, cnt, Nat.zero_le _, by go_num, by simp, k7, k37, k47, hM7, hg7⟩
          case round =>
            clear k7 k37 k47 hM7 hg7
            obtain ⟨j, cj, hj, rfl, hcj, k7, k3, k4, hMr, hgr⟩ := hrel
            obtain ⟨C, HC⟩ : ∃ C, Hid (accN rs width most (best rs width most) ⟨sa, sk, sl⟩ j = C) := ⟨_, rfl⟩
            have hCb := acc_bd (rs := rs) (width := width) (most := most) (s := ⟨sa, sk, sl⟩) h1 (by rw [unhide HLEN]; exact h2) j
            rw [unhide HC] at k7 hCb
            rw [unhide HLEN] at hCb
            dsimp only at hCb
            obtain ⟨Cc, Ca, Ck, Cl⟩ := C
            dsimp only at k7 hCb
            obtain ⟨hCb0, hCb1⟩ := hCb
            have hgs := hgr.size
            have g30 : wr.cell? ⟨w.heap.size, 0, none⟩ = some (.int .i64 sa) := k3.cell 0
            have g31 : wr.cell? ⟨w.heap.size, 1, none⟩ = some (.bool sk) := k3.cell 1
            have g32 : wr.cell? ⟨w.heap.size, 2, none⟩ = some (.int .i64 sl) := k3.cell 2
            by_cases hlt : j < LS
            · have hto : sa < (n : Int) - 1 - (j : Int) := by omega
              have c0 : wr.cell? ⟨gC, 0, none⟩ = some (.slice A n c) := hMr.blk.cell 0
              have c1 : wr.cell? ⟨gC, 1, none⟩ = some (.int .i64 width) := hMr.blk.cell 1
              have c2 : wr.cell? ⟨gC, 2, none⟩ = some (.int .i64 most) := hMr.blk.cell 2
              obtain ⟨K, ea, ek, el, HE⟩ : ∃ K ea ek el, Hid (stepOut rs width most ⟨sa, sk, sl⟩ ((n : Int) - 1 - (j : Int)) = (K, ⟨ea, ek, el⟩)) := ⟨_, _, _, _, rfl⟩
              have hMd := hMr.next (Below.refl wr.heap.size wr).drew
              have hMa := hMr.next (bof wr (.cells #[.int .i64 0, .bool false, .int .i64 0] 71)).drew
              have k3a := (k3.alloc (.cells #[.int .i64 0, .bool false, .int .i64 0] 71)).drew
              have kna := (Blk.new wr 71 #[.int .i64 0, .bool false, .int .i64 0]).drew
              go_wp2
              have hgw : gC ≠ wr.heap.size := by have := hMr.blk.lt; omega
              have h3w : w.heap.size ≠ wr.heap.size := by have := k3.lt; omega
              go_region_held3 (fun w' => w'.cell? ⟨gC, 0, none⟩ = some (.slice A n c) ∧ w'.cell? ⟨gC, 1, none⟩ = some (.int .i64 width) ∧ w'.cell? ⟨gC, 2, none⟩ = some (.int .i64 most) ∧ w'.cell? ⟨w.heap.size, 0, none⟩ = some (.int .i64 sa) ∧ w'.cell? ⟨w.heap.size, 1, none⟩ = some (.bool sk) ∧ w'.cell? ⟨w.heap.size, 2, none⟩ = some (.int .i64 sl))
                (first | with_reducible exact regS hMd.blk (Blk.drew k3) | with_reducible exact regS hMa.blk k3a | with_reducible exact regS hm2.blk k32 | with_reducible exact regS (hm2.blk.alloc _) (k32.alloc _) | with_reducible exact regS bS kS)
                ((first | (go_at_call 55; refine (c_lineCost A n c rs width most sa sk sl _ wr.drew hMd.items ⟨h3, h4⟩).mono ?_; rw [unhide HE]; rintro e w2 ⟨rfl, hb2⟩; have hm2 := hMd.next hb2; have k32 := (Blk.drew k3).next hb2) | (go_at_call 55; refine (c_lineCost A n c rs width most sa sk sl _ (wr.alloc (.cells #[.int .i64 0, .bool false, .int .i64 0] 71)).drew hMa.items ⟨h3, h4⟩).mono ?_; rw [unhide HE]; rintro e w2 ⟨rfl, hb2⟩; have hm2 := hMa.next hb2; have k32 := k3a.next hb2; have k42 := kna.next hb2; have m0 := k42.cell 0; have m1 := k42.cell 1; have m2 := k42.cell 2; have n0 := k42.frozen 0; have n1 := k42.frozen 1; have n2 := k42.frozen 2; have bS := ((hm2.blk.far (p := ⟨wr.heap.size, 0, none⟩) hgw (.int .i64 ea)).far (p := ⟨wr.heap.size, 1, none⟩) hgw (.bool ek)).far (p := ⟨wr.heap.size, 2, none⟩) hgw (.int .i64 el); have kS := ((k32.far (p := ⟨wr.heap.size, 0, none⟩) h3w (.int .i64 ea)).far (p := ⟨wr.heap.size, 1, none⟩) h3w (.bool ek)).far (p := ⟨wr.heap.size, 2, none⟩) h3w (.int .i64 el))))
              all_goals
                first
                | (obtain ⟨g10, HG10⟩ : ∃ g, Hid (g = w2.heap.size) := ⟨_, rfl⟩
                   have N10 := Blk.new w2 71 #[.int .i64 ea, .bool ek, .int .i64 el]
                   have N7 := ((Blk.drew k7).next hb2).alloc (.cells #[.int .i64 ea, .bool ek, .int .i64 el] 71)
                   have N3 := k32.alloc (.cells #[.int .i64 ea, .bool ek, .int .i64 el] 71)
                   have N4 := ((Blk.drew k4).next hb2).alloc (.cells #[.int .i64 ea, .bool ek, .int .i64 el] 71)
                   have MN := hm2.next (bof w2 (.cells #[.int .i64 ea, .bool ek, .int .i64 el] 71))
                   have gN := ch_next (ch_next (ch_next hgr (Below.refl wr.heap.size wr).drew) hb2) (bof w2 (.cells #[.int .i64 ea, .bool ek, .int .i64 el] 71))
                   obtain ⟨wN, HWN⟩ : ∃ x, Hid (x = w2.alloc (.cells #[.int .i64 ea, .bool ek, .int .i64 el] 71)) := ⟨_, rfl⟩
                   rw [← unhide HWN, ← unhide HG10]
                   rw [← unhide HWN] at N10 N7 N3 N4 MN gN
                   rw [← unhide HG10] at N10
                   clear HWN HG10)
                | (obtain ⟨g10, HG10⟩ : ∃ g, Hid (g = wr.heap.size) := ⟨_, rfl⟩
                   have hg7w2 : g7 ≠ wr.heap.size := by have := k7.lt; omega
                   have h4w : w.heap.size + 1 ≠ wr.heap.size := by have := k4.lt; omega
                   have hbmw : bm ≠ wr.heap.size := by
                     obtain ⟨D1, hm1, _⟩ := hMr.map
                     have := map_lt hm1; omega
                   have hAw : ∀ b off, A = some ⟨b, off, none⟩ → b ≠ wr.heap.size := fun b off e => by
                     obtain ⟨b', off', e', hl', _⟩ := Rd.cells hMr.items.1 hn0
                     rw [e] at e'
                     cases e'
                     omega
                   have N10 : Blk (((w2.setCell ⟨wr.heap.size, 0, none⟩ (.int .i64 ea)).setCell ⟨wr.heap.size, 1, none⟩ (.bool ek)).setCell ⟨wr.heap.size, 2, none⟩ (.int .i64 el)) wr.heap.size 71 #[.int .i64 ea, .bool ek, .int .i64 el] := ((k42.set_ 0 (.int .i64 ea)).set_ 1 (.bool ek)).set_ 2 (.int .i64 el)
                   have N7 := ((((k7.alloc (.cells #[.int .i64 0, .bool false, .int .i64 0] 71)).drew.next hb2).far (p := ⟨wr.heap.size, 0, none⟩) hg7w2 (.int .i64 ea)).far (p := ⟨wr.heap.size, 1, none⟩) hg7w2 (.bool ek)).far (p := ⟨wr.heap.size, 2, none⟩) hg7w2 (.int .i64 el)
                   have N3 := kS
                   have N4 := ((((k4.alloc (.cells #[.int .i64 0, .bool false, .int .i64 0] 71)).drew.next hb2).far (p := ⟨wr.heap.size, 0, none⟩) h4w (.int .i64 ea)).far (p := ⟨wr.heap.size, 1, none⟩) h4w (.bool ek)).far (p := ⟨wr.heap.size, 2, none⟩) h4w (.int .i64 el)
                   have MN := ((hm2.put (p := ⟨wr.heap.size, 0, none⟩) hgw hbmw hAw (.int .i64 ea)).put (p := ⟨wr.heap.size, 1, none⟩) hgw hbmw hAw (.bool ek)).put (p := ⟨wr.heap.size, 2, none⟩) hgw hbmw hAw (.int .i64 el)
                   have gN := ch_set (ch_set (ch_set (ch_next (ch_next hgr (bof wr (.cells #[.int .i64 0, .bool false, .int .i64 0] 71)).drew) hb2) (p := ⟨wr.heap.size, 0, none⟩) hgs (.int .i64 ea)) (p := ⟨wr.heap.size, 1, none⟩) hgs (.bool ek)) (p := ⟨wr.heap.size, 2, none⟩) hgs (.int .i64 el)
                   obtain ⟨wN, HWN⟩ : ∃ x, Hid (x = ((w2.setCell ⟨wr.heap.size, 0, none⟩ (.int .i64 ea)).setCell ⟨wr.heap.size, 1, none⟩ (.bool ek)).setCell ⟨wr.heap.size, 2, none⟩ (.int .i64 el)) := ⟨_, rfl⟩
                   rw [← unhide HWN, ← unhide HG10]
                   rw [← unhide HWN] at N10 N7 N3 N4 MN gN
                   rw [← unhide HG10] at N10
                   clear HWN HG10 bS kS m0 m1 m2 n0 n1 n2 k42)
              all_goals
                have hcast : ((rs.length - 1 - j : Nat) : Int) = (n : Int) - 1 - (j : Int) := by rw [unhide HLEN]; omega
                have HCA := hide hcast
                have hp2 : 2 ^ (j + 1) = 2 * 2 ^ j := by rw [Nat.pow_succ, Nat.mul_comm]
                obtain ⟨pj, HPJ⟩ : ∃ p, Hid (2 ^ j = p) := ⟨_, hide rfl⟩
                rw [unhide HPJ] at hcj hp2
                have hHP2 := hide hp2
                have hpj1 : 1 ≤ pj := by rw [← unhide HPJ]; exact Nat.one_le_two_pow
                have hLSP : 2 * pj ≤ P := by
                  rw [← hp2, ← unhide HP, unhide HLS]
                  exact Nat.pow_le_pow_right (by omega) (by omega)
                clear hcast hp2 hb2 hm2 k32 k7 k3 k4 hMr hgr hMd hMa k3a kna c0 c1 c2 g30 g31 g32 hgw h3w
                by_cases hK : K < 0
                · have HA : Hid (accN rs width most (best rs width most) ⟨sa, sk, sl⟩ (j + 1) = ⟨Cc, ⟨Ca, Ck, Cl⟩⟩) := by
                    show _ = _; rw [accN, updC, unhide HCA, stepOut_none (by rw [unhide HE]; exact hK), unhide HC]
                  have N7' := (Blk.congr' N7 HA)
                  clear N7 HC HE
                  go_wp2
                  go_roundw
                  case rel => exact ⟨j + 1, cj, by omega, by go_num, by rw [unhide hHP2]; omega, N7', N3, N4, MN, gN⟩
                  case measure => simp [intOf] <;> omega
                · have hst := stepOut_some (rs := rs) (width := width) (most := most) (s := ⟨sa, sk, sl⟩) (to := (n : Int) - 1 - (j : Int)) (by rw [unhide HE]; dsimp only; omega)
                  rw [unhide HE] at hst
                  obtain ⟨t1, t2, t3, t4, t5, t6, t7, t8, t9, t10⟩ := stepOf_bd hst
                  dsimp only at t3 t7 t8
                  have hle : left rs ⟨ea, ek, el⟩ = j := by unfold left; dsimp only; rw [unhide HLEN]; omega
                  have hih := unhide HIH ea ek el cj wN (by omega) (by omega) t7 t8 (by rw [hle, unhide HLS]; omega) (by rw [hle, unhide HPJ]; omega) MN
                  rw [hle, unhide HPJ] at hih
                  obtain ⟨BR, HBR⟩ : ∃ b, Hid (best rs width most ⟨ea, ek, el⟩ = b) := ⟨_, rfl⟩
                  rw [unhide HBR] at hih
                  have hrb := best_bound (rs := rs) (width := width) (most := most) (s := ⟨ea, ek, el⟩) (by dsimp only; omega) (by dsimp only; rw [unhide HLEN]; omega)
                  rw [unhide HBR, unhide HLEN] at hrb
                  obtain ⟨rc, ra, rk, rl⟩ := BR
                  dsimp only at hrb
                  simp only [Ch.val] at hih
                  obtain ⟨hrb0, hrb1⟩ := hrb
                  have hrc2 : rc ≤ 13000000000 := by omega
                  have hK0 : 0 ≤ K := by omega
                  have hK2 : K ≤ 210006000 := t2
                  have hCc2 : Cc ≤ 13000000000 := by omega
                  have HST := hide hst
                  have HIH2 := hide hih
                  have HT3 := hide t3
                  have n0 : wN.cell? ⟨g10, 0, none⟩ = some (.int .i64 ea) := N10.cell 0
                  have n1 : wN.cell? ⟨g10, 1, none⟩ = some (.bool ek) := N10.cell 1
                  have n2 : wN.cell? ⟨g10, 2, none⟩ = some (.int .i64 el) := N10.cell 2
                  have hKK : Hid (stepOf rs width most ⟨sa, sk, sl⟩ ((rs.length - 1 - j : Nat) : Int) = some (K, ⟨ea, ek, el⟩)) := by show _ = _; rw [unhide HCA]; exact hst
                  clear hst hih hle t3 t4 t5 t6 t9 t10 HE HST
                  go_wp2_with fail
                  refine (unhide HIH2).mono ?_
                  rintro e5 w5 ⟨rfl, cj2, hcj2, M5, g5⟩
                  have P10 := N10.grown g5 (blk_ne MN N10)
                  have P7 := N7.grown g5 (blk_ne MN N7)
                  have P3 := N3.grown g5 (blk_ne MN N3)
                  have P4 := N4.grown g5 (blk_ne MN N4)
                  have gP := ch_trans gN g5
                  have p70 : w5.cell? ⟨g7, 0, none⟩ = some (.int .i64 Cc) := P7.cell 0
                  have p71 : w5.cell? ⟨g7, 1, none⟩ = some (.int .i64 Ca) := P7.cell 1
                  have p72 : w5.cell? ⟨g7, 2, none⟩ = some (.bool Ck) := P7.cell 2
                  have p73 : w5.cell? ⟨g7, 3, none⟩ = some (.int .i64 Cl) := P7.cell 3
                  have f70 := P7.frozen 0
                  have f71 := P7.frozen 1
                  have f72 := P7.frozen 2
                  have f73 := P7.frozen 3
                  have p100 : w5.cell? ⟨g10, 0, none⟩ = some (.int .i64 ea) := P10.cell 0
                  have p101 : w5.cell? ⟨g10, 1, none⟩ = some (.bool ek) := P10.cell 1
                  have p102 : w5.cell? ⟨g10, 2, none⟩ = some (.int .i64 el) := P10.cell 2
                  have l7 := P7.lt
                  have l10 := P10.lt
                  have hsP := gP.size
                  clear n0 n1 n2 N10 N7 N3 N4 MN gN g5 P10 HIH2
                  have hsplit : (rc < 0 ∨ (0 ≤ rc ∧ ¬ Cc < 0 ∧ ¬ K + rc < Cc)) ∨ (0 ≤ rc ∧ Cc < 0) ∨ (0 ≤ rc ∧ ¬ Cc < 0 ∧ K + rc < Cc) := by omega
                  rcases hsplit with hno | hyes
                  · have HA : Hid (accN rs width most (best rs width most) ⟨sa, sk, sl⟩ (j + 1) = ⟨Cc, ⟨Ca, Ck, Cl⟩⟩) := by
                      show _ = _; rw [accN, updC, unhide hKK, unhide HC]; dsimp only; rw [unhide HBR]; dsimp only; rw [if_neg (by omega)]
                    have P7' := (P7.alloc (.cells #[.int .i64 rc, .int .i64 ra, .bool rk, .int .i64 rl] 79)).congr' HA
                    have P3' := P3.alloc (.cells #[.int .i64 rc, .int .i64 ra, .bool rk, .int .i64 rl] 79)
                    have P4' := P4.alloc (.cells #[.int .i64 rc, .int .i64 ra, .bool rk, .int .i64 rl] 79)
                    have M5' := M5.next (bof w5 (.cells #[.int .i64 rc, .int .i64 ra, .bool rk, .int .i64 rl] 79))
                    have gP' := ch_next gP (bof w5 (.cells #[.int .i64 rc, .int .i64 ra, .bool rk, .int .i64 rl] 79))
                    clear P7 P3 P4 M5 gP HC HBR hKK
                    rcases hno with hr | ⟨hr, hc1, hc2⟩
                    · have hd : decide (0 ≤ rc) = false := by simp; omega
                      go_wp2
                      go_roundw
                      case rel => exact ⟨j + 1, cj2, by omega, by go_num, by rw [unhide hHP2]; omega, P7', P3', P4', M5', gP'⟩
                      case measure => simp [intOf] <;> omega
                    · have hd : decide (Cc < 0) = false := by simp; omega
                      have hd2 : decide (K + rc < Cc) = false := by simp; omega
                      go_wp2
                      go_roundw
                      case rel => exact ⟨j + 1, cj2, by omega, by go_num, by rw [unhide hHP2]; omega, P7', P3', P4', M5', gP'⟩
                      case measure => simp [intOf] <;> omega
                  · have HA : Hid (accN rs width most (best rs width most) ⟨sa, sk, sl⟩ (j + 1) = ⟨K + rc, ⟨ea, ek, el⟩⟩) := by
                      show _ = _; rw [accN, updC, unhide hKK, unhide HC]; dsimp only; rw [unhide HBR]; dsimp only; rw [if_pos (by omega)]
                    have hgC7 : gC ≠ g7 := by omega
                    have hbm7 : bm ≠ g7 := by
                      intro e
                      exact blk_ne M5 P7 (by rw [e])
                    have hA7 : ∀ b off, A = some ⟨b, off, none⟩ → b ≠ g7 := fun b off e => by
                      obtain ⟨b', off', e', hl', _⟩ := Rd.cells hM.items.1 hn0
                      rw [e] at e'
                      cases e'
                      omega
                    have h37 : w.heap.size ≠ g7 := by omega
                    have h47 : w.heap.size + 1 ≠ g7 := by omega
                    have Q7 : Blk ((((w5.setCell ⟨g7, 0, none⟩ (.int .i64 (K + rc))).setCell ⟨g7, 1, none⟩ (.int .i64 ea)).setCell ⟨g7, 2, none⟩ (.bool ek)).setCell ⟨g7, 3, none⟩ (.int .i64 el)) g7 79 #[.int .i64 (K + rc), .int .i64 ea, .bool ek, .int .i64 el] := (((P7.set_ 0 (.int .i64 (K + rc))).set_ 1 (.int .i64 ea)).set_ 2 (.bool ek)).set_ 3 (.int .i64 el)
                    have P7' := (Q7.alloc (.cells #[.int .i64 rc, .int .i64 ra, .bool rk, .int .i64 rl] 79)).congr' HA
                    have P3' := ((((P3.far (p := ⟨g7, 0, none⟩) h37 (.int .i64 (K + rc))).far (p := ⟨g7, 1, none⟩) h37 (.int .i64 ea)).far (p := ⟨g7, 2, none⟩) h37 (.bool ek)).far (p := ⟨g7, 3, none⟩) h37 (.int .i64 el)).alloc (.cells #[.int .i64 rc, .int .i64 ra, .bool rk, .int .i64 rl] 79)
                    have P4' := ((((P4.far (p := ⟨g7, 0, none⟩) h47 (.int .i64 (K + rc))).far (p := ⟨g7, 1, none⟩) h47 (.int .i64 ea)).far (p := ⟨g7, 2, none⟩) h47 (.bool ek)).far (p := ⟨g7, 3, none⟩) h47 (.int .i64 el)).alloc (.cells #[.int .i64 rc, .int .i64 ra, .bool rk, .int .i64 rl] 79)
                    have M5' := ((((M5.put (p := ⟨g7, 0, none⟩) hgC7 hbm7 hA7 (.int .i64 (K + rc))).put (p := ⟨g7, 1, none⟩) hgC7 hbm7 hA7 (.int .i64 ea)).put (p := ⟨g7, 2, none⟩) hgC7 hbm7 hA7 (.bool ek)).put (p := ⟨g7, 3, none⟩) hgC7 hbm7 hA7 (.int .i64 el)).next (bof _ (.cells #[.int .i64 rc, .int .i64 ra, .bool rk, .int .i64 rl] 79))
                    have gP' := ch_next (ch_set (ch_set (ch_set (ch_set gP (p := ⟨g7, 0, none⟩) hg7w (.int .i64 (K + rc))) (p := ⟨g7, 1, none⟩) hg7w (.int .i64 ea)) (p := ⟨g7, 2, none⟩) hg7w (.bool ek)) (p := ⟨g7, 3, none⟩) hg7w (.int .i64 el)) (bof _ (.cells #[.int .i64 rc, .int .i64 ra, .bool rk, .int .i64 rl] 79))
                    clear P7 P3 P4 M5 gP HC HBR hKK Q7 hA7
                    rcases hyes with ⟨hr, hc1⟩ | ⟨hr, hc1, hc2⟩
                    · have hd : decide (0 ≤ rc) = true := by simp; omega
                      have hd2 : decide (Cc < 0) = true := by simp; omega
                      go_wp2
                      go_roundw
                      case rel => exact ⟨j + 1, cj2, by omega, by go_num, by rw [unhide hHP2]; omega, P7', P3', P4', M5', gP'⟩
                      case measure => simp [intOf] <;> omega
                    · have hd : decide (0 ≤ rc) = true := by simp; omega
                      have hd2 : decide (Cc < 0) = false := by simp; omega
                      have hd3 : decide (K + rc < Cc) = true := by simp; omega
                      go_wp2
                      go_roundw
                      case rel => exact ⟨j + 1, cj2, by omega, by go_num, by rw [unhide hHP2]; omega, P7', P3', P4', M5', gP'⟩
                      case measure => simp [intOf] <;> omega
            · obtain rfl : j = LS := by omega
              have hto : (n : Int) - 1 - (j : Int) = sa := by omega
              have HTO := hide hto
              have hgt : decide (sa < (n : Int) - 1 - (j : Int)) = false := by simp; omega
              have HBest : Hid (best rs width most ⟨sa, sk, sl⟩ = ⟨Cc, ⟨Ca, Ck, Cl⟩⟩) := by
                show _ = _; rw [best_eq h1 (by dsimp only; rw [unhide HLEN]; omega), unhide HLS, unhide HC]
              have hcnt : cj + 1 ≤ cnt + P := by rw [← unhide HP, unhide HLS]; exact hcj
              obtain ⟨D5, hm5, ok5⟩ := hMr.map
              obtain ⟨wU, DU, hrunU, hmU, okU, gU⟩ := put_ch (map_next hm5 (Below.refl wr.heap.size wr).drew) ok5 hWf (by unfold maxLen; omega)
              rw [unhide HBest] at hrunU
              simp only [Ch.val, St.val] at hrunU
              have hMd := hMr.next (Below.refl wr.heap.size wr).drew
              have MU := hMd.turned gU hmU okU
              have U4 := (Blk.drew k4).grown gU (blk_ne hMd (Blk.drew k4))
              have U7 := (Blk.drew k7).grown gU (blk_ne hMd (Blk.drew k7))
              have gA := ch_trans (ch_next hgr (Below.refl wr.heap.size wr).drew) gU
              have c3 : wr.cell? ⟨gC, 3, none⟩ = some (.map (some bm)) := hMr.blk.cell 3
              have k70 : wr.cell? ⟨g7, 0, none⟩ = some (.int .i64 Cc) := k7.cell 0
              have k71 : wr.cell? ⟨g7, 1, none⟩ = some (.int .i64 Ca) := k7.cell 1
              have k72 : wr.cell? ⟨g7, 2, none⟩ = some (.bool Ck) := k7.cell 2
              have k73 : wr.cell? ⟨g7, 3, none⟩ = some (.int .i64 Cl) := k7.cell 3
              have U70 : wU.cell? ⟨g7, 0, none⟩ = some (.int .i64 Cc) := U7.cell 0
              have U71 : wU.cell? ⟨g7, 1, none⟩ = some (.int .i64 Ca) := U7.cell 1
              have U72 : wU.cell? ⟨g7, 2, none⟩ = some (.bool Ck) := U7.cell 2
              have U73 : wU.cell? ⟨g7, 3, none⟩ = some (.int .i64 Cl) := U7.cell 3
              have U40 := U4.cell 0
              have U41 := U4.cell 1
              have U42 := U4.cell 2
              have U43 := U4.cell 3
              have F40 := U4.frozen 0
              have F41 := U4.frozen 1
              have F42 := U4.frozen 2
              have F43 := U4.frozen 3
              clear hm5 ok5 hmU okU hMd U4 U7 k7 k3 k4 hto HC
              go_wp2
              go_region
              all_goals
                go_wp2
                rw [unhide HBest]
                refine bodyPost_ret (v := .agg #[.int .i64 Cc, .int .i64 Ca, .bool Ck, .int .i64 Cl]) (by simp [results, Try.results56, go_sem, *]) rfl ⟨rfl, cj + 1, hcnt, ?_, ?_⟩
                · have hgC4 : gC ≠ w.heap.size + 1 := by omega
                  have hbm4 : bm ≠ w.heap.size + 1 := by
                    obtain ⟨D1, hm1, _⟩ := hM.map
                    have := map_lt hm1; omega
                  have hA4 : ∀ b off, A = some ⟨b, off, none⟩ → b ≠ w.heap.size + 1 := fun b off e => by
                    obtain ⟨b', off', e', hl', _⟩ := Rd.cells hM.items.1 hn0
                    rw [e] at e'
                    cases e'
                    omega
                  exact (((MU.put (p := ⟨w.heap.size + 1, 0, none⟩) hgC4 hbm4 hA4 _).put (p := ⟨w.heap.size + 1, 1, none⟩) hgC4 hbm4 hA4 _).put (p := ⟨w.heap.size + 1, 2, none⟩) hgC4 hbm4 hA4 _).put (p := ⟨w.heap.size + 1, 3, none⟩) hgC4 hbm4 hA4 _
                · exact ch_set (ch_set (ch_set (ch_set gA (p := ⟨w.heap.size + 1, 0, none⟩) (by dsimp only; omega) _) (p := ⟨w.heap.size + 1, 1, none⟩) (by dsimp only; omega) _) (p := ⟨w.heap.size + 1, 2, none⟩) (by dsimp only; omega) _) (p := ⟨w.heap.size + 1, 3, none⟩) (by dsimp only; omega) _
end Go.Proofs.Ytlklkloadefihaa
