/- Drawing rows out of a code: whatever is drawn is a list of rows. No condition. -/
import Derived.Test.YtfflnkkhemaanaaRowsA
import Derived.Test.YtfflnkkhemaanaaDraw
import Derived.Deep.DeepCutAuto
namespace Go.Proofs.Ytfflnkkhemaanaa
open Go.RowKit
set_option linter.unusedVariables false

/-- The state while a row is drawn: the local row in block b, the result's slot in block b0. -/
def RowSt (w0 : World) (g m b0 b : Nat) (w : World) : Prop :=
  ∃ r : Row, Blk w b 48 #[.int .i64 r.h, .bool r.k, .int .i64 r.n, .int .i64 r.f] ∧ Blk w b0 48 #[.int .i64 0, .bool false, .int .i64 0, .int .i64 0] ∧ Rdr w g m ∧ w0.grownBy w (some g)

def bads : Array Value := #[.int .i64 0, .bool false, .int .i64 0, .int .i64 0, .int .i64 1001, .bool false, .int .i64 0, .int .i64 0,
  .int .i64 1, .bool false, .int .i64 (-1), .int .i64 0, .int .i64 1, .bool false, .int .i64 0, .int .i64 1001]
section st
variable {w0 w w' : World} {g m b0 b : Nat}
theorem RowSt.rdr (h : RowSt w0 g m b0 b w) : Rdr w g m := by obtain ⟨_, _, _, h, _⟩ := h; exact h
theorem RowSt.pick (h : RowSt w0 g m b0 b w) (hb : b ≠ g) (hb0 : b0 ≠ g) {m' : Nat} (hr : Rdr w' g m') (hg : w.grownBy w' (some g)) : RowSt w0 g m' b0 b w' := by
  obtain ⟨r, h1, h2, h3, h4⟩ := h
  exact ⟨r, h1.grown hg (by simpa using hb), h2.grown hg (by simpa using hb0), hr, gtrans h4 hg⟩
theorem RowSt.at_ (h : RowSt w0 g m b0 b w) : ∃ r : Row, w.cell? ⟨b, 0, none⟩ = some (.int .i64 r.h) ∧ w.cell? ⟨b, 1, none⟩ = some (.bool r.k) ∧ w.cell? ⟨b, 2, none⟩ = some (.int .i64 r.n) ∧ w.cell? ⟨b, 3, none⟩ = some (.int .i64 r.f) ∧
    w.frozen? ⟨b, 0, none⟩ = false ∧ w.frozen? ⟨b, 1, none⟩ = false ∧ w.frozen? ⟨b, 2, none⟩ = false ∧ w.frozen? ⟨b, 3, none⟩ = false := by
  obtain ⟨r, h1, _⟩ := h
  exact ⟨r, h1.cell 0, h1.cell 1, h1.cell 2, h1.cell 3, h1.frozen 0, h1.frozen 1, h1.frozen 2, h1.frozen 3⟩
theorem RowSt.set2 (h : RowSt w0 g m b0 b w) (hb : g < b) (hbb : b0 ≠ b) (hs : w0.heap.size ≤ b) (x : Int) : RowSt w0 g m b0 b (w.setCell ⟨b, 2, none⟩ (.int .i64 x)) := by
  obtain ⟨r, h1, h2, h3, h4⟩ := h
  exact ⟨⟨r.h, r.k, x, r.f⟩, by simpa using h1.set_ 2 (.int .i64 x), h2.far (p := ⟨b, 2, none⟩) hbb _, h3.set (p := ⟨b, 2, none⟩) hb _, gset h4 (p := ⟨b, 2, none⟩) (.inr hs) _⟩
theorem RowSt.set3 (h : RowSt w0 g m b0 b w) (hb : g < b) (hbb : b0 ≠ b) (hs : w0.heap.size ≤ b) (x : Int) : RowSt w0 g m b0 b (w.setCell ⟨b, 3, none⟩ (.int .i64 x)) := by
  obtain ⟨r, h1, h2, h3, h4⟩ := h
  exact ⟨⟨r.h, r.k, r.n, x⟩, by simpa using h1.set_ 3 (.int .i64 x), h2.far (p := ⟨b, 3, none⟩) hbb _, h3.set (p := ⟨b, 3, none⟩) hb _, gset h4 (p := ⟨b, 3, none⟩) (.inr hs) _⟩
theorem RowSt.setAll (h : RowSt w0 g m b0 b w) (hg : g < w0.heap.size) (hb0 : w0.heap.size < b) (x y z : Int) (k : Bool) (e : b0 = w0.heap.size := by rfl) :
    RowSt w0 g m b0 b ((((w.setCell ⟨b, 0, none⟩ (.int .i64 x)).setCell ⟨b, 1, none⟩ (.bool k)).setCell ⟨b, 2, none⟩ (.int .i64 y)).setCell ⟨b, 3, none⟩ (.int .i64 z)) := by
  subst e
  obtain ⟨r, h1, h2, h3, h4⟩ := h
  refine ⟨⟨x, k, y, z⟩, by simpa using (((h1.set_ 0 (.int .i64 x)).set_ 1 (.bool k)).set_ 2 (.int .i64 y)).set_ 3 (.int .i64 z),
    (((h2.far (p := ⟨b, 0, none⟩) (by simp; omega) _).far (p := ⟨b, 1, none⟩) (by simp; omega) _).far (p := ⟨b, 2, none⟩) (by simp; omega) _).far (p := ⟨b, 3, none⟩) (by simp; omega) _,
    (((h3.set (p := ⟨b, 0, none⟩) (by simp; omega) _).set (p := ⟨b, 1, none⟩) (by simp; omega) _).set (p := ⟨b, 2, none⟩) (by simp; omega) _).set (p := ⟨b, 3, none⟩) (by simp; omega) _,
    gset (gset (gset (gset h4 (p := ⟨b, 0, none⟩) (.inr (by simp; omega)) _) (p := ⟨b, 1, none⟩) (.inr (by simp; omega)) _) (p := ⟨b, 2, none⟩) (.inr (by simp; omega)) _) (p := ⟨b, 3, none⟩) (.inr (by simp; omega)) _⟩
theorem RowSt.alloc (h : RowSt w0 g m b0 b w) (o : Obj) : RowSt w0 g m b0 b (w.alloc o) := by
  obtain ⟨r, h1, h2, h3, h4⟩ := h
  exact ⟨r, h1.alloc _, h2.alloc _, h3.alloc _, galloc h4 _⟩
theorem RowSt.more (h : RowSt w0 g m b0 b w) {m' : Nat} (hm : m ≤ m') : RowSt w0 g m' b0 b w := by
  obtain ⟨r, h1, h2, h3, h4⟩ := h
  exact ⟨r, h1, h2, h3.mono hm, h4⟩
end st

set_option maxHeartbeats 800000 in
theorem r_row (g m : Nat) (N : Nat) (w : World) (h : Rdr w g m) (hm : m ≤ 900000) (hN : N ≤ 1000000) :
    Calls Try.prog 59 #[.pointer (some ⟨g, 0, none⟩), .int .i64 N] w fun e w' => ∃ r : Row, e = .returned (.agg #[.int .i64 r.h, .bool r.k, .int .i64 r.n, .int .i64 r.f]) ∧ Rdr w' g (m + 8) ∧ w.grownBy w' (some g) := by
  have hgl := h.lt
  go_enter Try.func59, Try.ntmps59
  go_wp2_with fail
  refine (r_pick g m _ _ (h.alloc _) (by omega)).mono ?_
  rintro e w1 ⟨x1, rfl, hx1, hr1, hg1⟩
  go_wp2_with fail
  refine (r_pick g _ _ _ hr1 (by omega)).mono ?_
  rintro e w2 ⟨x2, rfl, hx2, hr2, hg2⟩
  have hb0 := ((Blk.new w 48 #[.int .i64 0, .bool false, .int .i64 0, .int .i64 0]).grown hg1 (by simp; omega)).grown hg2 (by simp; omega)
  have hg12 := gtrans (gtrans (galloc (grefl w (some g)) _) hg1) hg2
  have hs2 : w.heap.size < w2.heap.size := by have := hb0.lt; exact this
  have hst : RowSt w g (m + 2) w.heap.size w2.heap.size (w2.alloc (.cells #[.int .i64 (1 + x1), .bool ((x2 : Int) == 0), .int .i64 0, .int .i64 0] 48)) :=
    ⟨⟨1 + x1, (x2 : Int) == 0, 0, 0⟩, Blk.new _ _ _, hb0.alloc _, hr2.alloc _, galloc hg12 _⟩
  clear hb0 hg12 hr2 hg2 hr1 hg1
  go_wp2_with fail
  generalize w2.alloc (.cells #[.int .i64 (1 + x1), .bool ((x2 : Int) == 0), .int .i64 0, .int .i64 0] 48) = wa at hst ⊢
  refine (r_pick g _ _ _ hst.rdr (by omega)).mono ?_
  rintro e w3 ⟨x3, rfl, hx3, hr3, hg3⟩
  have hst3 := hst.pick (by omega) (by omega) hr3 hg3
  clear hst hr3 hg3 hx3
  obtain ⟨r3, q0, q1, q2, q3, f0, f1, f2, f3⟩ := hst3.at_
  go_upto_if 15 with fail
  go_cut [] (fun wx => RowSt w g (m + 4) w.heap.size w2.heap.size wx)
  case first =>
    by_cases h3 : x3 = 0
    · subst h3
      go_wp2_with fail
      refine (r_pick g _ _ _ hst3.rdr (by omega)).mono ?_
      rintro e w4 ⟨x4, rfl, hx4, hr4, hg4⟩
      have hst4 := hst3.pick (by omega) (by omega) hr4 hg4
      clear q0 q1 q2 q3 f0 f1 f2 f3
      obtain ⟨r4, q0, q1, q2, q3, f0, f1, f2, f3⟩ := hst4.at_
      go_wp2
      go_meet
      exact hst4.set2 (by omega) (by omega) (by omega) _
    · have hz : ((x3 : Int) == 0) = false := by simp; omega
      go_wp2
      go_meet
      exact hst3.more (by omega)
  case rest =>
    have hst4 : RowSt w g (m + 4) w.heap.size w2.heap.size wc := hcut
    clear hcut hst3 q0 q1 q2 q3 f0 f1 f2 f3
    go_wp2_with fail
    refine (r_pick g _ _ _ hst4.rdr (by omega)).mono ?_
    rintro e w5 ⟨x5, rfl, hx5, hr5, hg5⟩
    have hst5 := hst4.pick (by omega) (by omega) hr5 hg5
    clear hst4 hr5 hg5 hx5
    obtain ⟨r5, q0, q1, q2, q3, f0, f1, f2, f3⟩ := hst5.at_
    go_upto_if 22 with fail
    go_cut [] (fun wx => RowSt w g (m + 6) w.heap.size w2.heap.size wx)
    case first =>
      by_cases h3 : x5 = 0
      · subst h3
        go_wp2_with fail
        refine (r_pick g _ _ _ hst5.rdr (by omega)).mono ?_
        rintro e w6 ⟨x6, rfl, hx6, hr6, hg6⟩
        have hst6 := hst5.pick (by omega) (by omega) hr6 hg6
        clear q0 q1 q2 q3 f0 f1 f2 f3
        obtain ⟨r6, q0, q1, q2, q3, f0, f1, f2, f3⟩ := hst6.at_
        go_wp2
        go_meet
        exact hst6.set3 (by omega) (by omega) (by omega) _
      · have hz : ((x5 : Int) == 0) = false := by simp; omega
        go_wp2
        go_meet
        exact hst5.more (by omega)
    case rest =>
      have hst6 : RowSt w g (m + 6) w.heap.size w2.heap.size wc := hcut
      clear hcut hst5 q0 q1 q2 q3 f0 f1 f2 f3
      go_wp2_with fail
      refine (r_odd g _ N _ hst6.rdr (by omega) hN).mono ?_
      rintro e w7 ⟨x7, rfl, _, hr7, hg7⟩
      have hst7 := hst6.pick (by omega) (by omega) hr7 hg7
      clear hst6 hr7 hg7
      obtain ⟨r7, q0, q1, q2, q3, f0, f1, f2, f3⟩ := hst7.at_
      go_upto_if 29 with fail
      go_cut [] (fun wx => RowSt w g (m + 8) w.heap.size w2.heap.size wx)
      case first =>
        cases x7
        · go_wp2
          go_meet
          exact hst7.more (by omega)
        · go_wp2_with fail
          have hr8 := hst7.rdr.alloc (.cells bads 48)
          have hb8 := Blk.new w7 48 bads
          refine (r_pick g _ _ _ hr8 (by omega)).mono ?_
          rintro e w9 ⟨x, rfl, hx, hr9, hg9⟩
          have hst9 := (hst7.alloc (.cells bads 48)).pick (by omega) (by omega) hr9 hg9
          have hlt7 := hst7.rdr.lt
          have hb9 := hb8.grown hg9 (by simp; omega)
          clear hst7 hr8 hb8 hr9 hg9 q0 q1 q2 q3 f0 f1 f2 f3
          obtain ⟨r9, q0, q1, q2, q3, f0, f1, f2, f3⟩ := hst9.at_
          have hx4 : x < 4 := by omega
          rcases (show x = 0 ∨ x = 1 ∨ x = 2 ∨ x = 3 by omega) with rfl | rfl | rfl | rfl
          · have s0 : w9.cell? ⟨w7.heap.size, 0, none⟩ = some (.int .i64 0) := hb9.cell 0
            have s1 : w9.cell? ⟨w7.heap.size, 1, none⟩ = some (.bool false) := hb9.cell 1
            have s2 : w9.cell? ⟨w7.heap.size, 2, none⟩ = some (.int .i64 0) := hb9.cell 2
            have s3 : w9.cell? ⟨w7.heap.size, 3, none⟩ = some (.int .i64 0) := hb9.cell 3
            go_wp2
            go_meet
            exact hst9.setAll hgl hs2 _ _ _ _
          · have s0 : w9.cell? ⟨w7.heap.size, 4, none⟩ = some (.int .i64 1001) := hb9.cell 4
            have s1 : w9.cell? ⟨w7.heap.size, 5, none⟩ = some (.bool false) := hb9.cell 5
            have s2 : w9.cell? ⟨w7.heap.size, 6, none⟩ = some (.int .i64 0) := hb9.cell 6
            have s3 : w9.cell? ⟨w7.heap.size, 7, none⟩ = some (.int .i64 0) := hb9.cell 7
            go_wp2
            go_meet
            exact hst9.setAll hgl hs2 _ _ _ _
          · have s0 : w9.cell? ⟨w7.heap.size, 8, none⟩ = some (.int .i64 1) := hb9.cell 8
            have s1 : w9.cell? ⟨w7.heap.size, 9, none⟩ = some (.bool false) := hb9.cell 9
            have s2 : w9.cell? ⟨w7.heap.size, 10, none⟩ = some (.int .i64 (-1)) := hb9.cell 10
            have s3 : w9.cell? ⟨w7.heap.size, 11, none⟩ = some (.int .i64 0) := hb9.cell 11
            go_wp2
            go_meet
            exact hst9.setAll hgl hs2 _ _ _ _
          · have s0 : w9.cell? ⟨w7.heap.size, 12, none⟩ = some (.int .i64 1) := hb9.cell 12
            have s1 : w9.cell? ⟨w7.heap.size, 13, none⟩ = some (.bool false) := hb9.cell 13
            have s2 : w9.cell? ⟨w7.heap.size, 14, none⟩ = some (.int .i64 0) := hb9.cell 14
            have s3 : w9.cell? ⟨w7.heap.size, 15, none⟩ = some (.int .i64 1001) := hb9.cell 15
            go_wp2
            go_meet
            exact hst9.setAll hgl hs2 _ _ _ _
      case rest =>
        obtain ⟨r, hb, hb0, hr, hg⟩ := hcut
        have q0 : wc.cell? ⟨w2.heap.size, 0, none⟩ = some (.int .i64 r.h) := hb.cell 0
        have q1 : wc.cell? ⟨w2.heap.size, 1, none⟩ = some (.bool r.k) := hb.cell 1
        have q2 : wc.cell? ⟨w2.heap.size, 2, none⟩ = some (.int .i64 r.n) := hb.cell 2
        have q3 : wc.cell? ⟨w2.heap.size, 3, none⟩ = some (.int .i64 r.f) := hb.cell 3
        have p0 : wc.cell? ⟨w.heap.size, 0, none⟩ = some (.int .i64 0) := hb0.cell 0
        have p1 : wc.cell? ⟨w.heap.size, 1, none⟩ = some (.bool false) := hb0.cell 1
        have p2 : wc.cell? ⟨w.heap.size, 2, none⟩ = some (.int .i64 0) := hb0.cell 2
        have p3 : wc.cell? ⟨w.heap.size, 3, none⟩ = some (.int .i64 0) := hb0.cell 3
        have f0 := hb0.frozen 0
        have f1 := hb0.frozen 1
        have f2 := hb0.frozen 2
        have f3 := hb0.frozen 3
        go_wp2
        refine bodyPost_ret (v := .agg #[.int .i64 r.h, .bool r.k, .int .i64 r.n, .int .i64 r.f]) (by simp [results, Try.results59, go_sem, p0, p1, p2, p3]) rfl ?_
        exact ⟨r, rfl, (((hr.set (p := ⟨w.heap.size, 0, none⟩) hgl _).set (p := ⟨w.heap.size, 1, none⟩) hgl _).set (p := ⟨w.heap.size, 2, none⟩) hgl _).set (p := ⟨w.heap.size, 3, none⟩) hgl _,
          gset (gset (gset (gset hg (p := ⟨w.heap.size, 0, none⟩) (.inr (Nat.le_refl _)) _) (p := ⟨w.heap.size, 1, none⟩) (.inr (Nat.le_refl _)) _) (p := ⟨w.heap.size, 2, none⟩) (.inr (Nat.le_refl _)) _) (p := ⟨w.heap.size, 3, none⟩) (.inr (Nat.le_refl _)) _⟩
theorem Rdr.own {w w' : World} {g m B e sz n : Nat} {v : Value} {xs : List Value} (h : Rdr w g m) (ho : w.ownsRow B e sz v n xs) (hB : g < B) (hg : w.grownBy w' v.ownBlock) : Rdr w' g m :=
  h.keep hg (fun k hk => Nat.lt_of_lt_of_le hB (ho.lt k hk).1)
theorem gown' {a w w' : World} {row : Option Nat} {e sz n : Nat} {v : Value} {xs : List Value} (h : a.grownBy w row) (ho : w.ownsRow a.heap.size e sz v n xs) (hg : w.grownBy w' v.ownBlock) : a.grownBy w' row :=
  gown h hg (fun k hk => (ho.lt k hk).1)
end Go.Proofs.Ytfflnkkhemaanaa
