/- Drawing words and patterns. · Drawing a glue. · Drawing an item. No condition. -/
import Derived.Test.YtlklkloadefihaaMd
import Derived.Laws.BytesArg
import Derived.Deep.DeepCutAuto
namespace Go.Proofs.Ytlklkloadefihaa
open Go.RowKit
set_option linter.unusedVariables false

def strsOk (cs : Array Value) : Bool := cs.all fun v => match v with | .string s => decide (s.size ≤ 20) | _ => false
theorem Blk.str {w : World} {g x : Nat} {t : TypeId} {cs : Array Value} (h : Blk w g t cs) (hok : strsOk cs = true) (hx : x < cs.size) : ∃ s : ByteArray, w.cell? ⟨g, x, none⟩ = some (.string s) ∧ s.size ≤ 20 := by
  have h1 := Array.all_eq_true.1 hok x hx
  have hc := h.cell x
  rw [Array.getElem?_eq_getElem hx] at hc
  cases hv : cs[x] with
  | string s => rw [hv] at hc h1; exact ⟨s, hc, of_decide_eq_true h1⟩
  | _ => rw [hv] at h1; simp at h1
theorem conv_one (z : Nat) (w : World) : ∃ s : ByteArray, s.size = 1 ∧ Sem.run Try.prog (convert 22 9 (.slice (some ⟨w.heap.size, 0, none⟩) 1 1)) (w.alloc (.cells #[.int .u8 (97 + (z : Int))] 5)) = .ok (.string s) (w.alloc (.cells #[.int .u8 (97 + (z : Int))] 5)) := by
  refine ⟨_, ?_, run_convert_bytes_arg (w.alloc (.cells #[.int .u8 (97 + (z : Int))] 5)) 22 5 Try.underlying22 Try.underlying5 w.heap.size 0 1 1 [97 + (z : Int)] rfl (fun i hi => ?_) 9 Try.underlying9⟩
  · rfl
  · obtain rfl : i = 0 := by omega
    exact (Blk.new w 5 #[.int .u8 (97 + (z : Int))]).cell 0
set_option maxHeartbeats 800000 in
theorem r_pattern0 (g m : Nat) (w : World) (h : Rdr w g m) (hm : m ≤ 800000) :
    Calls Try.prog 90 #[.pointer (some ⟨g, 0, none⟩), .int .i64 0] w fun e w' => ∃ s : ByteArray, e = .returned (.string s) ∧ s.size ≤ 20 ∧ Rdr w' g (m + 2) ∧ w.grownBy w' (some g) := by
  have hgl := h.lt
  go_enter Try.func90, Try.ntmps90
  go_wp2_with fail
  refine (r_odd g m 0 _ h (by omega) (by omega)).mono ?_
  rintro e w1 ⟨b, rfl, hb, hr, hg⟩
  obtain rfl := hb rfl
  go_wp2_with fail
  refine (r_pick g _ _ _ (hr.alloc _) (by omega)).mono ?_
  rintro e w2 ⟨x, rfl, hx, hr2, hg2⟩
  have hB := (Blk.new w1 _ _).grown hg2 (by have := hg.size; simp; omega)
  have hx2 : x < 15 := by omega
  obtain ⟨s, hs, hsz⟩ := hB.str (by decide +kernel) hx2
  have hxi : (x : Int) < 15 := by omega
  go_wp2
  go_ret
  exact ⟨s, rfl, hsz, hr2.mono (by omega), gtrans (galloc hg _) hg2⟩
set_option maxRecDepth 100000 in
set_option maxHeartbeats 800000 in
theorem r_text0 (g m : Nat) (w : World) (h : Rdr w g m) (hm : m ≤ 800000) :
    Calls Try.prog 69 #[.pointer (some ⟨g, 0, none⟩), .int .i64 0] w fun e w' => ∃ s : ByteArray, e = .returned (.string s) ∧ s.size ≤ 20 ∧ Rdr w' g (m + 20) ∧ w.grownBy w' (some g) := by
  have hgl := h.lt
  go_enter Try.func69, Try.ntmps69
  go_wp2_with fail
  refine (r_odd g m 0 _ h (by omega) (by omega)).mono ?_
  rintro e w1 ⟨b, rfl, hb, hr, hg⟩
  obtain rfl := hb rfl
  go_wp2_with fail
  refine (r_pick g _ _ _ hr (by omega)).mono ?_
  rintro e w2 ⟨x, rfl, hx, hr2, hg2⟩
  have hG := gtrans hg hg2
  clear hr hg hg2 hb
  by_cases h0 : 0 < x
  · have hi : (0 : Int) < (x : Int) := by omega
    go_wp2_with fail
    refine (r_pick g _ _ _ (hr2.alloc _) (by omega)).mono ?_
    rintro e w3 ⟨y, rfl, hy, hr3, hg3⟩
    have hB := (Blk.new w2 _ _).grown hg3 (by have := hG.size; simp; omega)
    have hy2 : y < 12 := by omega
    obtain ⟨s, hs, hsz⟩ := hB.str (by decide +kernel) hy2
    have hyi : (y : Int) < 12 := by omega
    go_wp2
    go_ret
    exact ⟨s, rfl, hsz, hr3.mono (by omega), gtrans (galloc hG _) hg3⟩
  · have hi : ¬ (0 : Int) < (x : Int) := by omega
    go_wp2_with fail
    refine (r_pick g _ _ _ hr2 (by omega)).mono ?_
    rintro e w3 ⟨y, rfl, hy, hr3, hg3⟩
    have hG3 := gtrans hG hg3
    have hy9 : y + 1 ≤ 9 := by omega
    clear hG hg3 hr2 hx hi h0 hy
    go_wp2
    go_loopw [5, 6] (fun o i wr => ∃ (k : Nat) (s : ByteArray), k ≤ 9 ∧ i = .int .i64 k ∧ o = .string s ∧ s.size + k ≤ 9 ∧ Rdr wr g (m + 3 + s.size) ∧ w.grownBy wr (some g)) (fun _ i _ => (intOf i).toNat)
    case atStart => exact ⟨y + 1, _, by omega, by go_num, rfl, by show 0 + (y + 1) ≤ 9; omega, hr3, hG3⟩
    case round =>
      clear hr3 hG3
      obtain ⟨k, s, hk, rfl, rfl, hsk, hr, hG⟩ := hrel
      by_cases hlt : 0 < k
      · have hki : (0 : Int) < (k : Int) := by omega
        go_wp2_with fail
        refine (r_pick g _ _ _ hr (by omega)).mono ?_
        rintro e w4 ⟨z, rfl, hz, hr4, hg4⟩
        have hz2 : z < 26 := by omega
        obtain ⟨u, hu, hcv⟩ := conv_one z w4
        have HU := hide hu
        have hub : u.size ≤ 1 := by omega
        have hsb : s.size ≤ 9 := by omega
        clear hu
        go_wp2
        go_roundw
        case rel => exact ⟨k - 1, s ++ u, by omega, by go_num, rfl, by rw [ByteArray.size_append, unhide HU]; omega, (hr4.alloc _).mono (by rw [ByteArray.size_append, unhide HU]; omega), galloc (gtrans hG hg4) _⟩
        case measure => simp [intOf]; omega
      · have hki : ¬ (0 : Int) < (k : Int) := by omega
        go_wp2
        go_ret
        exact ⟨s, rfl, by omega, hr.mono (by omega), hG⟩
end Go.Proofs.Ytlklkloadefihaa

namespace Go.Proofs.Ytlklkloadefihaa
open Go.RowKit
set_option linter.unusedVariables false

set_option maxRecDepth 100000 in
set_option maxHeartbeats 3200000 in
theorem r_glue (g m : Nat) (N : Nat) (w : World) (h : Rdr w g m) (hm : m ≤ 800000) (hN : N ≤ 1000000) :
    Calls Try.prog 91 #[.pointer (some ⟨g, 0, none⟩), .int .i64 N] w fun e w' => ∃ a b c d : Int, e = .returned (.agg #[.int .i64 a, .int .i64 b, .int .i64 c, .int .i64 d]) ∧ Rdr w' g (m + 40) ∧ w.grownBy w' (some g) := by
  have hgl := h.lt
  go_enter Try.func91, Try.ntmps91
  go_wp2_with fail
  refine (r_pick g m _ _ (h.alloc _) (by omega)).mono ?_
  rintro e w1 ⟨x1, rfl, hx1, hr1, hg1⟩
  have hr1' : x1 ≤ 19 := by omega
  have G1 := (Blk.new w _ _).grown hg1 (by simp; omega)
  have hgr1 := gtrans (galloc (grefl w (some g)) _) hg1
  clear hx1 hg1
  go_wp2_with fail
  refine (r_pick g _ _ _ hr1 (by omega)).mono ?_
  rintro e w2 ⟨x2, rfl, hx2, hr2, hg2⟩
  have hx22 : x2 ≤ 5 := by omega
  have G2 := G1.grown hg2 (by simp; omega)
  have hgr2 := gtrans hgr1 hg2
  have hs2 := hgr2.size
  clear hx2 hg2 G1 hgr1 hr1
  go_wp2_with fail
  refine (r_pick g _ _ _ (hr2.alloc _) (by omega)).mono ?_
  rintro e w3 ⟨x3, rfl, hx3, hr3, hg3⟩
  have B3 := (Blk.new w2 _ _).grown hg3 (by simp; omega)
  have G3 := (G2.alloc _).grown hg3 (by simp; omega)
  have hgr3 := gtrans (galloc hgr2 _) hg3
  obtain ⟨bb, hbb⟩ : ∃ b, b = w2.heap.size := ⟨_, rfl⟩
  rw [← hbb] at B3 ⊢
  have hbw : w.heap.size + 1 ≤ bb := by rw [hbb]; have := G2.lt; omega
  have hgb : g < bb := by omega
  have b0 := B3.cell 0
  have b1 := B3.cell 1
  have b2 := B3.cell 2
  have b3 := B3.cell 3
  have f2 := B3.frozen 2
  clear hx3 hg3 G2 hgr2 hr2 hbb hs2
  go_wp2_with fail
  have B4 := B3.set_ 2 (.int .i64 x3)
  have G4 := G3.far (p := ⟨bb, 2, none⟩) (by dsimp only; omega) (.int .i64 x3)
  have hr4 := hr3.set (p := ⟨bb, 2, none⟩) hgb (.int .i64 x3)
  have hgr4 : w.grownBy _ (some g) := gset hgr3 (p := ⟨bb, 2, none⟩) (.inr (by dsimp only; omega)) (.int .i64 x3)
  have Q4 : GlBlk (w3.setCell ⟨bb, 2, none⟩ (.int .i64 x3)) bb := ⟨x1, x2, x3, 0, by simpa using B4⟩
  generalize World.setCell w3 _ _ = w4 at Q4 G4 hr4 hgr4 ⊢
  clear B4 B3 G3 hr3 hgr3 b0 b1 b2 b3 f2
  refine (r_pick g _ _ _ hr4 (by omega)).mono ?_
  rintro e w5 ⟨x5, rfl, hx5, hr5, hg5⟩
  have Q5 := Q4.grown hg5 (by omega)
  have G5 := G4.grown hg5 (by simp; omega)
  have hgr5 := gtrans hgr4 hg5
  clear Q4 G4 hr4 hgr4 hg5
  go_upto_if 19 with fail
  go_cut [20, 21, 22, 23, 24, 25, 26, 27, 28, 29, 30, 31, 32] (fun _ _ _ _ _ _ _ _ _ _ _ _ _ wx => GlBlk wx bb ∧ Blk wx w.heap.size 29 #[.int .i64 0, .int .i64 0, .int .i64 0, .int .i64 0] ∧ Rdr wx g (m + 25) ∧ w.grownBy wx (some g))
  case first =>
    by_cases h5 : x5 = 0
    · have hz : ((x5 : Int) == 0) = true := by simp [h5]
      go_wp2
      refine wp_region_rd2 (g := g) (G := bb) (m := m + 1 + 1 + 1 + 1) [.arr 3 (IsI 0 1000), .is (.pointer (some ⟨g, 0, none⟩)), .val (IsI 0 2), .elem (IsI 0 1000), .val (IsI 0 1000), .arr 3 (IsI 0 1000), .is (.pointer (some ⟨g, 0, none⟩)), .val (IsI 0 2), .elem (IsI 0 1000), .val (IsI 0 1000), .is (.pointer (some ⟨g, 0, none⟩)), .val (IsI 0 1), .val IsGl, .any] (by kernel_rfl) (by kernel_rfl) hr5 Q5 hgb ?_ ?_
      · simp only [Obl]
        refine ⟨?_, ?_, ?_, ?_, ?_, ?_, ?_, ?_, ?_, ?_, ?_, ?_, ?_, ?_, trivial⟩
        · refine ob_arr2 (fun v => [.int .i64 0, .int .i64 1000, .int .i64 7]) rfl rfl Try.underlying34 (by kernel_rfl) (by kernel_rfl) (fun v => by kernel_rfl) (fun v => rfl) (by omega) (by omega) IsI.one (fun v w hd u hu => ?_) rfl
          simp only [List.mem_cons, List.not_mem_nil, or_false] at hu
          rcases hu with rfl | rfl | rfl <;> exact ⟨_, rfl, by omega, by omega⟩
        · exact ob_is2 (.inl rfl) rfl rfl (fun v => by kernel_rfl)
        · exact ob_pick2 1 rfl rfl (fun v => by kernel_rfl) (by kernel_rfl) rfl rfl (by omega) (by omega) (by simp <;> omega)
        · exact ob_idx2 (hi' := 2) 0 rfl rfl (fun v => by kernel_rfl) (by kernel_rfl) rfl (opd_dep2 2 (fun v => by kernel_rfl) (by kernel_rfl) rfl) (by omega) Try.underlying34 (by kernel_rfl) rfl
        · exact ob_load2 3 rfl rfl (fun v => by kernel_rfl) (by kernel_rfl) rfl ld_int rfl
        · refine ob_arr2 (fun v => [.int .i64 0, .int .i64 1, .int .i64 1000]) rfl rfl Try.underlying34 (by kernel_rfl) (by kernel_rfl) (fun v => by kernel_rfl) (fun v => rfl) (by omega) (by omega) IsI.one (fun v w hd u hu => ?_) rfl
          simp only [List.mem_cons, List.not_mem_nil, or_false] at hu
          rcases hu with rfl | rfl | rfl <;> exact ⟨_, rfl, by omega, by omega⟩
        · exact ob_is2 (.inl rfl) rfl rfl (fun v => by kernel_rfl)
        · exact ob_pick2 6 rfl rfl (fun v => by kernel_rfl) (by kernel_rfl) rfl rfl (by omega) (by omega) (by simp <;> omega)
        · exact ob_idx2 (hi' := 2) 5 rfl rfl (fun v => by kernel_rfl) (by kernel_rfl) rfl (opd_dep2 7 (fun v => by kernel_rfl) (by kernel_rfl) rfl) (by omega) Try.underlying34 (by kernel_rfl) rfl
        · exact ob_load2 8 rfl rfl (fun v => by kernel_rfl) (by kernel_rfl) rfl ld_int rfl
        · exact ob_is2 (.inl rfl) rfl rfl (fun v => by kernel_rfl)
        · exact ob_pick2 10 rfl rfl (fun v => by kernel_rfl) (by kernel_rfl) rfl rfl (by omega) (by omega) (by simp <;> omega)
        · exact ob_glue3 rfl rfl (opd_dep2 4 (fun v => by kernel_rfl) (by kernel_rfl) rfl) (opd_dep2 9 (fun v => by kernel_rfl) (by kernel_rfl) rfl) (opd_dep2 11 (fun v => by kernel_rfl) (by kernel_rfl) rfl) rfl
        · exact ob_store2 12 rfl rfl (fun v => by kernel_rfl) (fun v => by kernel_rfl) (by kernel_rfl) rfl rfl
      · intro v w6 hJ hT
        have hr6 := hJ.rd
        have Q6 := hJ.gl
        have G6 : Blk w6 w.heap.size 29 #[.int .i64 0, .int .i64 0, .int .i64 0, .int .i64 0] := (hJ.gr.block _ G5.lt (by omega) (by omega)).trans G5
        have hgr6 := hJ.gr.one w (by omega) hgr5
        clear hT hJ
        simp only [putL, Act.put, List.setIfInBounds_toArray, List.set_cons_succ, List.set_cons_zero]
        go_wp2
        go_meet
        exact ⟨Q6, G6, hr6.mono (by simp), hgr6⟩
    · have hz : ((x5 : Int) == 0) = false := by simp; omega
      go_wp2
      go_meet
      exact ⟨Q5, G5, hr5.mono (by omega), hgr5⟩
  case rest =>
    obtain ⟨Q, G, hr, hgr⟩ := hcut
    clear Q5 G5 hr5 hgr5
    go_wp2_with fail
    refine (r_odd g _ N _ hr (by omega) hN).mono ?_
    rintro e w7 ⟨b7, rfl, _, hr7, hg7⟩
    have Q7 := Q.grown hg7 (by omega)
    have G7 := G.grown hg7 (by simp; omega)
    have hgr7 := gtrans hgr hg7
    clear Q G hr hgr hg7
    have g0 := G7.cell 0
    have g1 := G7.cell 1
    have g2 := G7.cell 2
    have g3 := G7.cell 3
    have y0 := G7.frozen 0
    have y1 := G7.frozen 1
    have y2 := G7.frozen 2
    have y3 := G7.frozen 3
    cases b7
    · obtain ⟨a, b, c, d, B7⟩ := Q7
      have b0 := B7.cell 0
      have b1 := B7.cell 1
      have b2 := B7.cell 2
      have b3 := B7.cell 3
      go_wp2
      refine bodyPost_ret (v := .agg #[.int .i64 a, .int .i64 b, .int .i64 c, .int .i64 d]) (by simp [results, Try.results91, go_sem, *]) rfl ⟨a, b, c, d, rfl, ?_, ?_⟩
      · repeat (refine Rdr.set ?_ hgl _)
        exact hr7.mono (by omega)
      · repeat (refine gset ?_ (.inr (Nat.le_refl _)) _)
        exact hgr7
    · go_wp2_with fail
      refine (r_pick g _ _ _ (hr7.alloc _) (by omega)).mono ?_
      rintro e w8 ⟨x8, rfl, hx8, hr8, hg8⟩
      have hx86 : x8 < 6 := by omega
      have T8 := (Blk.new w7 _ _).grown hg8 (by have := hr7.lt; simp; omega)
      have hlt7 := G7.lt
      have G8 := (G7.alloc _).grown hg8 (by simp; omega)
      have Q8 := (Q7.alloc _).grown hg8 (by omega)
      have hgr8 := gtrans (galloc hgr7 _) hg8
      obtain ⟨p, q, r, s, B8⟩ := Q8
      have hbl : bb < w7.heap.size := by obtain ⟨_, _, _, _, h⟩ := Q7; exact h.lt
      obtain ⟨a, b, c, d, ha, hb, hc, hd⟩ : ∃ a b c d : Int, w8.cell? ⟨w7.heap.size, x8 * 4, none⟩ = some (.int .i64 a) ∧ w8.cell? ⟨w7.heap.size, x8 * 4 + 1, none⟩ = some (.int .i64 b) ∧ w8.cell? ⟨w7.heap.size, x8 * 4 + 2, none⟩ = some (.int .i64 c) ∧ w8.cell? ⟨w7.heap.size, x8 * 4 + 3, none⟩ = some (.int .i64 d) := by
        rcases (show x8 = 0 ∨ x8 = 1 ∨ x8 = 2 ∨ x8 = 3 ∨ x8 = 4 ∨ x8 = 5 by omega) with rfl | rfl | rfl | rfl | rfl | rfl <;> exact ⟨_, _, _, _, T8.cell _, T8.cell _, T8.cell _, T8.cell _⟩
      clear T8 G7 Q7 hr7 hgr7 hg8 hx8 g0 g1 g2 g3 y0 y1 y2 y3
      have g0 := G8.cell 0
      have g1 := G8.cell 1
      have g2 := G8.cell 2
      have g3 := G8.cell 3
      have y0 := G8.frozen 0
      have y1 := G8.frozen 1
      have y2 := G8.frozen 2
      have y3 := G8.frozen 3
      have b0 := B8.cell 0
      have b1 := B8.cell 1
      have b2 := B8.cell 2
      have b3 := B8.cell 3
      have z0 := B8.frozen 0
      have z1 := B8.frozen 1
      have z2 := B8.frozen 2
      have z3 := B8.frozen 3
      have hx8i : (x8 : Int) < 6 := by omega
      have hne1 : bb ≠ w7.heap.size := by omega
      have hne2 : w.heap.size ≠ bb := by omega
      clear G8 B8
      go_wp2
      refine bodyPost_ret (v := .agg #[.int .i64 a, .int .i64 b, .int .i64 c, .int .i64 d]) (by simp [results, Try.results91, go_sem, *]) rfl ⟨a, b, c, d, rfl, ?_, ?_⟩
      · repeat (refine Rdr.set ?_ (by dsimp only; omega) _)
        exact hr8.mono (by omega)
      · repeat (refine gset ?_ (.inr (by dsimp only; omega)) _)
        exact hgr8
end Go.Proofs.Ytlklkloadefihaa

namespace Go.Proofs.Ytlklkloadefihaa
open Go.RowKit
set_option linter.unusedVariables false

def ItBlk (w : World) (G : Nat) : Prop := ∃ r : Item, Blk w G 51 #[.int .i64 r.kind, .int .i64 r.w, .int .i64 r.st, .int .i64 r.sh, .int .i64 r.od, .int .i64 r.cost, .bool r.mark]
theorem ItBlk.grown {w w' : World} {row : Option Nat} {G : Nat} (h : ItBlk w G) (hg : w.grownBy w' row) (hne : some G ≠ row) : ItBlk w' G := by
  obtain ⟨r, h⟩ := h
  exact ⟨r, h.grown hg hne⟩
theorem ItBlk.alloc {w : World} {G : Nat} (h : ItBlk w G) (o : Obj) : ItBlk (w.alloc o) G := by
  obtain ⟨r, h⟩ := h
  exact ⟨r, h.alloc o⟩
theorem ItBlk.lt {w : World} {G : Nat} (h : ItBlk w G) : G < w.heap.size := by
  obtain ⟨r, h⟩ := h
  exact h.lt
def NilIt (w : World) (G : Nat) : Prop := Blk w G 51 #[.int .i64 0, .int .i64 0, .int .i64 0, .int .i64 0, .int .i64 0, .int .i64 0, .bool false]
/-- The state of such a draw. -/
structure ItSt (w0 : World) (g bb m : Nat) (w : World) : Prop where
  it : ItBlk w bb
  nil : Blk w w0.heap.size 51 #[.int .i64 0, .int .i64 0, .int .i64 0, .int .i64 0, .int .i64 0, .int .i64 0, .bool false]
  rd : Rdr w g m
  gr : w0.grownBy w (some g)
  gb : g < bb
  wb : w0.heap.size < bb
section
variable {w0 w w' : World} {g bb m m' : Nat}
theorem ItSt.pick (h : ItSt w0 g bb m w) (hr : Rdr w' g m') (hg : w.grownBy w' (some g)) (hgl : g < w0.heap.size) : ItSt w0 g bb m' w' :=
  ⟨h.it.grown hg (by have := h.gb; simp; omega), h.nil.grown hg (by simp; omega), hr, gtrans h.gr hg, h.gb, h.wb⟩
theorem ItSt.alloc (h : ItSt w0 g bb m w) (o : Obj) : ItSt w0 g bb m (w.alloc o) := ⟨h.it.alloc o, h.nil.alloc o, h.rd.alloc o, galloc h.gr o, h.gb, h.wb⟩
theorem ItSt.more (h : ItSt w0 g bb m w) (hm : m ≤ m') : ItSt w0 g bb m' w := ⟨h.it, h.nil, h.rd.mono hm, h.gr, h.gb, h.wb⟩
theorem ItSt.set4 {a b c d : Int} (h : ItSt w0 g bb m w) : ItSt w0 g bb m ((((w.setCell ⟨bb, 1, none⟩ (.int .i64 a)).setCell ⟨bb, 2, none⟩ (.int .i64 b)).setCell ⟨bb, 3, none⟩ (.int .i64 c)).setCell ⟨bb, 4, none⟩ (.int .i64 d)) := by
  obtain ⟨⟨r, hB⟩, hn, hr, hg, h1, h2⟩ := h
  refine ⟨⟨⟨r.kind, a, b, c, d, r.cost, r.mark⟩, ?_⟩, ?_, ?_, ?_, h1, h2⟩
  · simpa using (((hB.set_ 1 (.int .i64 a)).set_ 2 (.int .i64 b)).set_ 3 (.int .i64 c)).set_ 4 (.int .i64 d)
  · exact (((hn.far (p := ⟨bb, 1, none⟩) (by dsimp only; omega) _).far (p := ⟨bb, 2, none⟩) (by dsimp only; omega) _).far (p := ⟨bb, 3, none⟩) (by dsimp only; omega) _).far (p := ⟨bb, 4, none⟩) (by dsimp only; omega) _
  · exact (((hr.set (p := ⟨bb, 1, none⟩) h1 _).set (p := ⟨bb, 2, none⟩) h1 _).set (p := ⟨bb, 3, none⟩) h1 _).set (p := ⟨bb, 4, none⟩) h1 _
  · repeat (refine gset ?_ (.inr (Nat.le_of_lt h2)) _)
    exact hg
theorem ItSt.setk {a : Int} (h : ItSt w0 g bb m w) : ItSt w0 g bb m (w.setCell ⟨bb, 0, none⟩ (.int .i64 a)) := by
  obtain ⟨⟨r, hB⟩, hn, hr, hg, h1, h2⟩ := h
  exact ⟨⟨⟨a, r.w, r.st, r.sh, r.od, r.cost, r.mark⟩, by simpa using hB.set_ 0 (.int .i64 a)⟩, hn.far (p := ⟨bb, 0, none⟩) (by dsimp only; omega) _, hr.set (p := ⟨bb, 0, none⟩) h1 _, gset hg (.inr (Nat.le_of_lt h2)) _, h1, h2⟩
theorem ItSt.setc {a : Int} (h : ItSt w0 g bb m w) : ItSt w0 g bb m (w.setCell ⟨bb, 5, none⟩ (.int .i64 a)) := by
  obtain ⟨⟨r, hB⟩, hn, hr, hg, h1, h2⟩ := h
  exact ⟨⟨⟨r.kind, r.w, r.st, r.sh, r.od, a, r.mark⟩, by simpa using hB.set_ 5 (.int .i64 a)⟩, hn.far (p := ⟨bb, 5, none⟩) (by dsimp only; omega) _, hr.set (p := ⟨bb, 5, none⟩) h1 _, gset hg (.inr (Nat.le_of_lt h2)) _, h1, h2⟩
theorem ItSt.setm {a : Bool} (h : ItSt w0 g bb m w) : ItSt w0 g bb m (w.setCell ⟨bb, 6, none⟩ (.bool a)) := by
  obtain ⟨⟨r, hB⟩, hn, hr, hg, h1, h2⟩ := h
  exact ⟨⟨⟨r.kind, r.w, r.st, r.sh, r.od, r.cost, a⟩, by simpa using hB.set_ 6 (.bool a)⟩, hn.far (p := ⟨bb, 6, none⟩) (by dsimp only; omega) _, hr.set (p := ⟨bb, 6, none⟩) h1 _, gset hg (.inr (Nat.le_of_lt h2)) _, h1, h2⟩
theorem ItSt.set7 {q : Item} (h : ItSt w0 g bb m w) : ItSt w0 g bb m (((((((w.setCell ⟨bb, 0, none⟩ (.int .i64 q.kind)).setCell ⟨bb, 1, none⟩ (.int .i64 q.w)).setCell ⟨bb, 2, none⟩ (.int .i64 q.st)).setCell ⟨bb, 3, none⟩ (.int .i64 q.sh)).setCell ⟨bb, 4, none⟩ (.int .i64 q.od)).setCell ⟨bb, 5, none⟩ (.int .i64 q.cost)).setCell ⟨bb, 6, none⟩ (.bool q.mark)) :=
  ((((h.setk (a := q.kind)).set4 (a := q.w) (b := q.st) (c := q.sh) (d := q.od)).setc (a := q.cost)).setm (a := q.mark))
end
set_option maxRecDepth 100000 in
set_option maxHeartbeats 6400000 in
theorem r_item (g m : Nat) (N : Nat) (w : World) (h : Rdr w g m) (hm : m ≤ 700000) (hN : N ≤ 1000000) :
    Calls Try.prog 72 #[.pointer (some ⟨g, 0, none⟩), .int .i64 N] w fun e w' => ∃ r : Item, e = .returned (.agg #[.int .i64 r.kind, .int .i64 r.w, .int .i64 r.st, .int .i64 r.sh, .int .i64 r.od, .int .i64 r.cost, .bool r.mark]) ∧ Rdr w' g (m + 60) ∧ w.grownBy w' (some g) := by
  have hgl := h.lt
  go_enter Try.func72, Try.ntmps72
  go_wp2_with fail
  refine (r_pick g m _ _ ((h.alloc _).alloc _) (by omega)).mono ?_
  rintro e w1 ⟨x1, rfl, hx1, hr1, hg1⟩
  have G1 := ((Blk.new w _ _).alloc _).grown hg1 (by simp; omega)
  have T1 := (Blk.new (w.alloc _) _ _).grown hg1 (by simp; omega)
  simp only [size_alloc'] at T1
  have hgr1 := gtrans (galloc (galloc (grefl w (some g)) _) _) hg1
  have hs1 := hgr1.size
  obtain ⟨k1, hk1, hk1c⟩ : ∃ k1 : Int, (k1 = 1 ∨ k1 = 2 ∨ k1 = 3) ∧ w1.cell? ⟨w.heap.size + 1, x1, none⟩ = some (.int .i64 k1) := by
    rcases (show x1 = 0 ∨ x1 = 1 ∨ x1 = 2 ∨ x1 = 3 ∨ x1 = 4 by omega) with rfl | rfl | rfl | rfl | rfl
    · exact ⟨1, by omega, T1.cell 0⟩
    · exact ⟨1, by omega, T1.cell 1⟩
    · exact ⟨2, by omega, T1.cell 2⟩
    · exact ⟨2, by omega, T1.cell 3⟩
    · exact ⟨3, by omega, T1.cell 4⟩
  have hx1i : (x1 : Int) < 5 := by omega
  clear hg1 T1 hx1
  go_upto_region 2 with fail
  have S : ItSt w g w1.heap.size (m + 1) (w1.alloc (.cells #[.int .i64 k1, .int .i64 0, .int .i64 0, .int .i64 0, .int .i64 0, .int .i64 0, .bool false] 51)) :=
    ⟨⟨⟨k1, 0, 0, 0, 0, 0, false⟩, Blk.new _ _ _⟩, G1.alloc _, hr1.alloc _, galloc hgr1 _, by have := hr1.lt; omega, by have := G1.lt; omega⟩
  have KB := (Blk.new w1 51 #[.int .i64 k1, .int .i64 0, .int .i64 0, .int .i64 0, .int .i64 0, .int .i64 0, .bool false])
  generalize World.alloc w1 _ = w2 at S KB ⊢
  obtain ⟨bb, hbb⟩ : ∃ b, b = w1.heap.size := ⟨_, rfl⟩
  rw [← hbb] at S KB ⊢
  have hgb := S.gb
  have hwb := S.wb
  clear G1 hgr1 hr1 hs1 hk1c hbb
  rename_i K1 ha1 K2 ha2
  have HA2 := hide ha2
  clear ha2
  have kb0 := KB.cell 0
  go_wp2
  clear kb0
  refine (unhide HA2) _ _ ?_
  clear HA2
  go_cut [14] (fun _ wx => ItSt w g bb (m + 10) wx)
  case first =>
    rcases hk1 with rfl | rfl | rfl
    · go_wp2_with fail
      refine (r_pick g _ _ _ S.rd (by omega)).mono ?_
      rintro e w3 ⟨x3, rfl, hx3, hr3, hg3⟩
      have S3 := S.pick hr3 hg3 hgl
      have hx33 : x3 ≤ 29 := by omega
      have B3 := KB.grown hg3 (by simp; omega)
      have b1 := B3.cell 1
      have b2 := B3.cell 2
      have b3 := B3.cell 3
      have b4 := B3.cell 4
      have f1 := B3.frozen 1
      have f2 := B3.frozen 2
      have f3 := B3.frozen 3
      have f4 := B3.frozen 4
      clear S KB hr3 hg3 hx3 B3
      go_wp2
      go_meet
      exact S3.set4.more (by omega)
    · clear KB
      go_wp2_with fail
      refine (r_pick g _ _ _ S.rd (by omega)).mono ?_
      rintro e w3 ⟨x3, rfl, hx3, hr3, hg3⟩
      have S3 := S.pick hr3 hg3 hgl
      have hx33 : x3 ≤ 2 := by omega
      clear S hr3 hg3 hx3
      go_wp2_with fail
      refine (r_pick g _ _ _ S3.rd (by omega)).mono ?_
      rintro e w4 ⟨x4, rfl, hx4, hr4, hg4⟩
      have S4 := S3.pick hr4 hg4 hgl
      have hx44 : x4 ≤ 3 := by omega
      clear S3 hr4 hg4 hx4
      go_wp2_with fail
      refine (r_pick g _ _ _ S4.rd (by omega)).mono ?_
      rintro e w5 ⟨x5, rfl, hx5, hr5, hg5⟩
      have S5 := S4.pick hr5 hg5 hgl
      have hx55 : x5 ≤ 2 := by omega
      clear S4 hr5 hg5 hx5
      obtain ⟨r, B⟩ := S5.it
      have b0 := B.cell 0
      have b1 := B.cell 1
      have b2 := B.cell 2
      have b3 := B.cell 3
      have b4 := B.cell 4
      have b5 := B.cell 5
      have b6 := B.cell 6
      have f0 := B.frozen 0
      have f1 := B.frozen 1
      have f2 := B.frozen 2
      have f3 := B.frozen 3
      have f4 := B.frozen 4
      have f5 := B.frozen 5
      have f6 := B.frozen 6
      clear B
      go_wp2
      go_meet
      exact S5.set4.more (by omega)
    · clear KB
      go_wp2_with fail
      refine (r_pick g _ _ _ S.rd (by omega)).mono ?_
      rintro e w3 ⟨x3, rfl, hx3, hr3, hg3⟩
      have S3 := S.pick hr3 hg3 hgl
      have hx33 : x3 ≤ 1 := by omega
      clear S hr3 hg3 hx3
      obtain ⟨r, B⟩ := S3.it
      have b0 := B.cell 0
      have b1 := B.cell 1
      have b2 := B.cell 2
      have b3 := B.cell 3
      have b4 := B.cell 4
      have b5 := B.cell 5
      have b6 := B.cell 6
      have f0 := B.frozen 0
      have f1 := B.frozen 1
      have f2 := B.frozen 2
      have f3 := B.frozen 3
      have f4 := B.frozen 4
      have f5 := B.frozen 5
      have f6 := B.frozen 6
      clear B
      go_upto_region 4 with fail
      have S4 := S3.set4 (a := (x3 : Int) * 3) (b := 0) (c := 0) (d := 0)
      generalize World.setCell _ _ _ = w4 at S4 ⊢
      clear b0 b1 b2 b3 b4 b5 b6 f0 f1 f2 f3 f4 f5 f6
      clear S3
      have hbl := S4.it.lt
      go_wp2_with fail
      refine (r_pick g _ _ _ ((S4.rd.alloc _).alloc _) (by omega)).mono ?_
      rintro e w5 ⟨x5, rfl, hx5, hr5, hg5⟩
      have hx56 : x5 < 7 := by omega
      have S5 := ((S4.alloc _).alloc _).pick hr5 hg5 hgl
      have TA := ((Blk.new w4 _ _).alloc _).grown hg5 (by have := S4.rd.lt; simp; omega)
      have TB := (Blk.new (w4.alloc _) _ _).grown hg5 (by have := S4.rd.lt; simp; omega)
      simp only [size_alloc'] at TB
      obtain ⟨t, ht, htc⟩ : ∃ t : Nat, t < 5 ∧ w5.cell? ⟨w4.heap.size + 1, x5, none⟩ = some (.int .i64 t) := by
        rcases (show x5 = 0 ∨ x5 = 1 ∨ x5 = 2 ∨ x5 = 3 ∨ x5 = 4 ∨ x5 = 5 ∨ x5 = 6 by omega) with rfl | rfl | rfl | rfl | rfl | rfl | rfl
        · exact ⟨0, by omega, TB.cell 0⟩
        · exact ⟨0, by omega, TB.cell 1⟩
        · exact ⟨1, by omega, TB.cell 2⟩
        · exact ⟨1, by omega, TB.cell 3⟩
        · exact ⟨2, by omega, TB.cell 4⟩
        · exact ⟨3, by omega, TB.cell 5⟩
        · exact ⟨4, by omega, TB.cell 6⟩
      obtain ⟨y, hyc⟩ : ∃ y : Int, w5.cell? ⟨w4.heap.size, t, none⟩ = some (.int .i64 y) := by
        rcases (show t = 0 ∨ t = 1 ∨ t = 2 ∨ t = 3 ∨ t = 4 by omega) with rfl | rfl | rfl | rfl | rfl <;> exact ⟨_, TA.cell _⟩
      have hx5i : (x5 : Int) < 7 := by omega
      have hti : (t : Int) < 5 := by omega
      clear S4 TA TB hr5 hg5 hx5
      obtain ⟨r, B⟩ := S5.it
      have b0 := B.cell 0
      have b1 := B.cell 1
      have b2 := B.cell 2
      have b3 := B.cell 3
      have b4 := B.cell 4
      have b5 := B.cell 5
      have b6 := B.cell 6
      have f0 := B.frozen 0
      have f1 := B.frozen 1
      have f2 := B.frozen 2
      have f3 := B.frozen 3
      have f4 := B.frozen 4
      have f5 := B.frozen 5
      have f6 := B.frozen 6
      clear B
      go_upto_region 5 with fail
      have S6 := S5.setc (a := y)
      generalize World.setCell _ _ _ = w6 at S6 ⊢
      clear b0 b1 b2 b3 b4 b5 b6 f0 f1 f2 f3 f4 f5 f6
      clear S5 htc hyc hbl
      obtain ⟨r, B⟩ := S6.it
      have b0 := B.cell 0
      have b1 := B.cell 1
      have b2 := B.cell 2
      have b3 := B.cell 3
      have b4 := B.cell 4
      have b5 := B.cell 5
      have b6 := B.cell 6
      have f0 := B.frozen 0
      have f1 := B.frozen 1
      have f2 := B.frozen 2
      have f3 := B.frozen 3
      have f4 := B.frozen 4
      have f5 := B.frozen 5
      have f6 := B.frozen 6
      clear B
      go_wp2
      go_meet
      exact (S6.setm).more (by omega)
  case rest =>
    clear KB S
    have hnil := hcut.nil.lt
    go_wp2_with fail
    refine (r_odd g _ N _ hcut.rd (by omega) hN).mono ?_
    rintro e w7 ⟨b7, rfl, _, hr7, hg7⟩
    have S7 := hcut.pick hr7 hg7 hgl
    clear hcut hr7 hg7 hnil
    cases b7
    · clear hk1
      obtain ⟨r, B⟩ := S7.it
      have b0 := B.cell 0
      have b1 := B.cell 1
      have b2 := B.cell 2
      have b3 := B.cell 3
      have b4 := B.cell 4
      have b5 := B.cell 5
      have b6 := B.cell 6
      have f0 := B.frozen 0
      have f1 := B.frozen 1
      have f2 := B.frozen 2
      have f3 := B.frozen 3
      have f4 := B.frozen 4
      have f5 := B.frozen 5
      have f6 := B.frozen 6
      clear B
      have n0 := S7.nil.cell 0
      have n1 := S7.nil.cell 1
      have n2 := S7.nil.cell 2
      have n3 := S7.nil.cell 3
      have n4 := S7.nil.cell 4
      have n5 := S7.nil.cell 5
      have n6 := S7.nil.cell 6
      have z0 := S7.nil.frozen 0
      have z1 := S7.nil.frozen 1
      have z2 := S7.nil.frozen 2
      have z3 := S7.nil.frozen 3
      have z4 := S7.nil.frozen 4
      have z5 := S7.nil.frozen 5
      have z6 := S7.nil.frozen 6
      have hwb2 := S7.wb
      go_wp2
      refine bodyPost_ret (v := .agg #[.int .i64 r.kind, .int .i64 r.w, .int .i64 r.st, .int .i64 r.sh, .int .i64 r.od, .int .i64 r.cost, .bool r.mark]) (by simp [results, Try.results72, go_sem, *]) rfl ⟨r, rfl, ?_, ?_⟩
      · repeat (refine Rdr.set ?_ hgl _)
        exact S7.rd.mono (by omega)
      · repeat (refine gset ?_ (.inr (Nat.le_refl _)) _)
        exact S7.gr
    · go_wp2_with fail
      refine (r_pick g _ _ _ S7.rd (by omega)).mono ?_
      rintro e w8 ⟨x8, rfl, hx8, hr8, hg8⟩
      have S8 := S7.pick hr8 hg8 hgl
      clear S7 hr8 hg8 hk1
      rcases (show x8 = 0 ∨ x8 = 1 ∨ x8 = 2 ∨ x8 = 3 ∨ x8 = 4 by omega) with rfl | rfl | rfl | rfl | rfl
      all_goals clear hx8
      · go_wp2_with fail
        refine (r_pick g _ _ _ (S8.rd.alloc _) (by omega)).mono ?_
        rintro e w9 ⟨x9, rfl, hx9, hr9, hg9⟩
        have hx92 : x9 < 2 := by omega
        have S9 := (S8.alloc _).pick hr9 hg9 hgl
        have TA := (Blk.new w8 _ _).grown hg9 (by have := S8.rd.lt; simp; omega)
        obtain ⟨y, hyc⟩ : ∃ y : Int, w9.cell? ⟨w8.heap.size, x9, none⟩ = some (.int .i64 y) := by
          rcases (show x9 = 0 ∨ x9 = 1 by omega) with rfl | rfl <;> exact ⟨_, TA.cell _⟩
        have hx9i : (x9 : Int) < 2 := by omega
        clear TA hr9 hg9 hx9
        obtain ⟨r, B⟩ := S9.it
        have b0 := B.cell 0
        have b1 := B.cell 1
        have b2 := B.cell 2
        have b3 := B.cell 3
        have b4 := B.cell 4
        have b5 := B.cell 5
        have b6 := B.cell 6
        have f0 := B.frozen 0
        have f1 := B.frozen 1
        have f2 := B.frozen 2
        have f3 := B.frozen 3
        have f4 := B.frozen 4
        have f5 := B.frozen 5
        have f6 := B.frozen 6
        clear B
        go_upto_region 21 with fail
        have S10 := S9.setk (a := y)
        generalize World.setCell _ _ _ = w10 at S10 ⊢
        clear b0 b1 b2 b3 b4 b5 b6 f0 f1 f2 f3 f4 f5 f6
        clear S9 S8 hyc
        obtain ⟨r, B⟩ := S10.it
        have b0 := B.cell 0
        have b1 := B.cell 1
        have b2 := B.cell 2
        have b3 := B.cell 3
        have b4 := B.cell 4
        have b5 := B.cell 5
        have b6 := B.cell 6
        have f0 := B.frozen 0
        have f1 := B.frozen 1
        have f2 := B.frozen 2
        have f3 := B.frozen 3
        have f4 := B.frozen 4
        have f5 := B.frozen 5
        have f6 := B.frozen 6
        clear B
        have n0 := S10.nil.cell 0
        have n1 := S10.nil.cell 1
        have n2 := S10.nil.cell 2
        have n3 := S10.nil.cell 3
        have n4 := S10.nil.cell 4
        have n5 := S10.nil.cell 5
        have n6 := S10.nil.cell 6
        have z0 := S10.nil.frozen 0
        have z1 := S10.nil.frozen 1
        have z2 := S10.nil.frozen 2
        have z3 := S10.nil.frozen 3
        have z4 := S10.nil.frozen 4
        have z5 := S10.nil.frozen 5
        have z6 := S10.nil.frozen 6
        have hwb2 := S10.wb
        go_wp2
        refine bodyPost_ret (v := .agg #[.int .i64 r.kind, .int .i64 r.w, .int .i64 r.st, .int .i64 r.sh, .int .i64 r.od, .int .i64 r.cost, .bool r.mark]) (by simp [results, Try.results72, go_sem, *]) rfl ⟨r, rfl, ?_, ?_⟩
        · repeat (refine Rdr.set ?_ hgl _)
          exact S10.rd.mono (by omega)
        · repeat (refine gset ?_ (.inr (Nat.le_refl _)) _)
          exact S10.gr
      · go_wp2_with fail
        refine (r_glue g _ 1 _ S8.rd (by omega) (by omega)).mono ?_
        rintro e w9 ⟨p1, p2, p3, p4, rfl, hr9, hg9⟩
        have S9 := S8.pick hr9 hg9 hgl
        clear hr9 hg9
        obtain ⟨r, B⟩ := S9.it
        have b0 := B.cell 0
        have b1 := B.cell 1
        have b2 := B.cell 2
        have b3 := B.cell 3
        have b4 := B.cell 4
        have b5 := B.cell 5
        have b6 := B.cell 6
        have f0 := B.frozen 0
        have f1 := B.frozen 1
        have f2 := B.frozen 2
        have f3 := B.frozen 3
        have f4 := B.frozen 4
        have f5 := B.frozen 5
        have f6 := B.frozen 6
        clear B
        go_upto_region 21 with fail
        have S10 := S9.set4 (a := p1) (b := p2) (c := p3) (d := p4)
        generalize World.setCell _ _ _ = w10 at S10 ⊢
        clear b0 b1 b2 b3 b4 b5 b6 f0 f1 f2 f3 f4 f5 f6
        clear S9 S8
        obtain ⟨r, B⟩ := S10.it
        have b0 := B.cell 0
        have b1 := B.cell 1
        have b2 := B.cell 2
        have b3 := B.cell 3
        have b4 := B.cell 4
        have b5 := B.cell 5
        have b6 := B.cell 6
        have f0 := B.frozen 0
        have f1 := B.frozen 1
        have f2 := B.frozen 2
        have f3 := B.frozen 3
        have f4 := B.frozen 4
        have f5 := B.frozen 5
        have f6 := B.frozen 6
        clear B
        have n0 := S10.nil.cell 0
        have n1 := S10.nil.cell 1
        have n2 := S10.nil.cell 2
        have n3 := S10.nil.cell 3
        have n4 := S10.nil.cell 4
        have n5 := S10.nil.cell 5
        have n6 := S10.nil.cell 6
        have z0 := S10.nil.frozen 0
        have z1 := S10.nil.frozen 1
        have z2 := S10.nil.frozen 2
        have z3 := S10.nil.frozen 3
        have z4 := S10.nil.frozen 4
        have z5 := S10.nil.frozen 5
        have z6 := S10.nil.frozen 6
        have hwb2 := S10.wb
        go_wp2
        refine bodyPost_ret (v := .agg #[.int .i64 r.kind, .int .i64 r.w, .int .i64 r.st, .int .i64 r.sh, .int .i64 r.od, .int .i64 r.cost, .bool r.mark]) (by simp [results, Try.results72, go_sem, *]) rfl ⟨r, rfl, ?_, ?_⟩
        · repeat (refine Rdr.set ?_ hgl _)
          exact S10.rd.mono (by omega)
        · repeat (refine gset ?_ (.inr (Nat.le_refl _)) _)
          exact S10.gr
      · go_wp2_with fail
        refine (r_pick g _ _ _ (S8.rd.alloc _) (by omega)).mono ?_
        rintro e w9 ⟨x9, rfl, hx9, hr9, hg9⟩
        have hx92 : x9 < 2 := by omega
        have S9 := (S8.alloc _).pick hr9 hg9 hgl
        have TA := (Blk.new w8 _ _).grown hg9 (by have := S8.rd.lt; simp; omega)
        obtain ⟨y, hyc⟩ : ∃ y : Int, w9.cell? ⟨w8.heap.size, x9, none⟩ = some (.int .i64 y) := by
          rcases (show x9 = 0 ∨ x9 = 1 by omega) with rfl | rfl <;> exact ⟨_, TA.cell _⟩
        have hx9i : (x9 : Int) < 2 := by omega
        clear TA hr9 hg9 hx9
        obtain ⟨r, B⟩ := S9.it
        have b0 := B.cell 0
        have b1 := B.cell 1
        have b2 := B.cell 2
        have b3 := B.cell 3
        have b4 := B.cell 4
        have b5 := B.cell 5
        have b6 := B.cell 6
        have f0 := B.frozen 0
        have f1 := B.frozen 1
        have f2 := B.frozen 2
        have f3 := B.frozen 3
        have f4 := B.frozen 4
        have f5 := B.frozen 5
        have f6 := B.frozen 6
        clear B
        go_upto_region 21 with fail
        have S10 := S9.setc (a := y)
        generalize World.setCell _ _ _ = w10 at S10 ⊢
        clear b0 b1 b2 b3 b4 b5 b6 f0 f1 f2 f3 f4 f5 f6
        clear S9 S8 hyc
        obtain ⟨r, B⟩ := S10.it
        have b0 := B.cell 0
        have b1 := B.cell 1
        have b2 := B.cell 2
        have b3 := B.cell 3
        have b4 := B.cell 4
        have b5 := B.cell 5
        have b6 := B.cell 6
        have f0 := B.frozen 0
        have f1 := B.frozen 1
        have f2 := B.frozen 2
        have f3 := B.frozen 3
        have f4 := B.frozen 4
        have f5 := B.frozen 5
        have f6 := B.frozen 6
        clear B
        have n0 := S10.nil.cell 0
        have n1 := S10.nil.cell 1
        have n2 := S10.nil.cell 2
        have n3 := S10.nil.cell 3
        have n4 := S10.nil.cell 4
        have n5 := S10.nil.cell 5
        have n6 := S10.nil.cell 6
        have z0 := S10.nil.frozen 0
        have z1 := S10.nil.frozen 1
        have z2 := S10.nil.frozen 2
        have z3 := S10.nil.frozen 3
        have z4 := S10.nil.frozen 4
        have z5 := S10.nil.frozen 5
        have z6 := S10.nil.frozen 6
        have hwb2 := S10.wb
        go_wp2
        refine bodyPost_ret (v := .agg #[.int .i64 r.kind, .int .i64 r.w, .int .i64 r.st, .int .i64 r.sh, .int .i64 r.od, .int .i64 r.cost, .bool r.mark]) (by simp [results, Try.results72, go_sem, *]) rfl ⟨r, rfl, ?_, ?_⟩
        · repeat (refine Rdr.set ?_ hgl _)
          exact S10.rd.mono (by omega)
        · repeat (refine gset ?_ (.inr (Nat.le_refl _)) _)
          exact S10.gr
      · have S9 := S8
        obtain ⟨r, B⟩ := S9.it
        have b0 := B.cell 0
        have b1 := B.cell 1
        have b2 := B.cell 2
        have b3 := B.cell 3
        have b4 := B.cell 4
        have b5 := B.cell 5
        have b6 := B.cell 6
        have f0 := B.frozen 0
        have f1 := B.frozen 1
        have f2 := B.frozen 2
        have f3 := B.frozen 3
        have f4 := B.frozen 4
        have f5 := B.frozen 5
        have f6 := B.frozen 6
        clear B
        go_upto_region 21 with fail
        have S10 := S9.set7 (q := ⟨1, 0, 0, 0, 0, 0, true⟩)
        generalize World.setCell _ _ _ = w10 at S10 ⊢
        clear b0 b1 b2 b3 b4 b5 b6 f0 f1 f2 f3 f4 f5 f6
        clear S9 S8
        obtain ⟨r, B⟩ := S10.it
        have b0 := B.cell 0
        have b1 := B.cell 1
        have b2 := B.cell 2
        have b3 := B.cell 3
        have b4 := B.cell 4
        have b5 := B.cell 5
        have b6 := B.cell 6
        have f0 := B.frozen 0
        have f1 := B.frozen 1
        have f2 := B.frozen 2
        have f3 := B.frozen 3
        have f4 := B.frozen 4
        have f5 := B.frozen 5
        have f6 := B.frozen 6
        clear B
        have n0 := S10.nil.cell 0
        have n1 := S10.nil.cell 1
        have n2 := S10.nil.cell 2
        have n3 := S10.nil.cell 3
        have n4 := S10.nil.cell 4
        have n5 := S10.nil.cell 5
        have n6 := S10.nil.cell 6
        have z0 := S10.nil.frozen 0
        have z1 := S10.nil.frozen 1
        have z2 := S10.nil.frozen 2
        have z3 := S10.nil.frozen 3
        have z4 := S10.nil.frozen 4
        have z5 := S10.nil.frozen 5
        have z6 := S10.nil.frozen 6
        have hwb2 := S10.wb
        go_wp2
        refine bodyPost_ret (v := .agg #[.int .i64 r.kind, .int .i64 r.w, .int .i64 r.st, .int .i64 r.sh, .int .i64 r.od, .int .i64 r.cost, .bool r.mark]) (by simp [results, Try.results72, go_sem, *]) rfl ⟨r, rfl, ?_, ?_⟩
        · repeat (refine Rdr.set ?_ hgl _)
          exact S10.rd.mono (by omega)
        · repeat (refine gset ?_ (.inr (Nat.le_refl _)) _)
          exact S10.gr
      · have S9 := S8
        obtain ⟨r, B⟩ := S9.it
        have b0 := B.cell 0
        have b1 := B.cell 1
        have b2 := B.cell 2
        have b3 := B.cell 3
        have b4 := B.cell 4
        have b5 := B.cell 5
        have b6 := B.cell 6
        have f0 := B.frozen 0
        have f1 := B.frozen 1
        have f2 := B.frozen 2
        have f3 := B.frozen 3
        have f4 := B.frozen 4
        have f5 := B.frozen 5
        have f6 := B.frozen 6
        clear B
        go_upto_region 21 with fail
        have S10 := S9.set7 (q := ⟨3, 1, 1, 0, 0, 0, false⟩)
        generalize World.setCell _ _ _ = w10 at S10 ⊢
        clear b0 b1 b2 b3 b4 b5 b6 f0 f1 f2 f3 f4 f5 f6
        clear S9 S8
        obtain ⟨r, B⟩ := S10.it
        have b0 := B.cell 0
        have b1 := B.cell 1
        have b2 := B.cell 2
        have b3 := B.cell 3
        have b4 := B.cell 4
        have b5 := B.cell 5
        have b6 := B.cell 6
        have f0 := B.frozen 0
        have f1 := B.frozen 1
        have f2 := B.frozen 2
        have f3 := B.frozen 3
        have f4 := B.frozen 4
        have f5 := B.frozen 5
        have f6 := B.frozen 6
        clear B
        have n0 := S10.nil.cell 0
        have n1 := S10.nil.cell 1
        have n2 := S10.nil.cell 2
        have n3 := S10.nil.cell 3
        have n4 := S10.nil.cell 4
        have n5 := S10.nil.cell 5
        have n6 := S10.nil.cell 6
        have z0 := S10.nil.frozen 0
        have z1 := S10.nil.frozen 1
        have z2 := S10.nil.frozen 2
        have z3 := S10.nil.frozen 3
        have z4 := S10.nil.frozen 4
        have z5 := S10.nil.frozen 5
        have z6 := S10.nil.frozen 6
        have hwb2 := S10.wb
        go_wp2
        refine bodyPost_ret (v := .agg #[.int .i64 r.kind, .int .i64 r.w, .int .i64 r.st, .int .i64 r.sh, .int .i64 r.od, .int .i64 r.cost, .bool r.mark]) (by simp [results, Try.results72, go_sem, *]) rfl ⟨r, rfl, ?_, ?_⟩
        · repeat (refine Rdr.set ?_ hgl _)
          exact S10.rd.mono (by omega)
        · repeat (refine gset ?_ (.inr (Nat.le_refl _)) _)
          exact S10.gr
end Go.Proofs.Ytlklkloadefihaa
