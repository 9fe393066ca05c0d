/- The cost of a line behind another one: contract. No condition. -/
import Derived.Test.YtadcbigioldejaaFirst
import Derived.Deep.RegionHeld3
namespace Go.Proofs.Ytadcbigioldejaa
open Go.RowKit
set_option linter.unusedVariables false

/-- Where a line ends, whether there is a mark, how it looks. -/
structure St where
  at_ : Int
  mark : Bool
  looks : Int
  deriving DecidableEq
def St.zero : St := ⟨0, false, 0⟩
def exMark (s : St) (m : Bool) : Int := if 0 ≤ s.at_ ∧ s.mark = true ∧ m = true then 3000 else 0
def exLooks (s : St) (l : Int) : Int := if 0 ≤ s.at_ ∧ (1 < s.looks - l ∨ s.looks - l < -1) then 3000 else 0
def stepOf (rs : List Item) (width most : Int) (s : St) (to : Int) : Option (Int × St) :=
  if (lineBad rs s.at_ to width).1 < 0 ∨ most < (lineBad rs s.at_ to width).1 then none else
    some (costOf (lineBad rs s.at_ to width).1 (itAt rs to.toNat).cost + exMark s (itAt rs to.toNat).mark + exLooks s (looksOf (lineBad rs s.at_ to width).2 (lineBad rs s.at_ to width).1),
      ⟨to, (itAt rs to.toNat).mark, looksOf (lineBad rs s.at_ to width).2 (lineBad rs s.at_ to width).1⟩)
def stepOut (rs : List Item) (width most : Int) (s : St) (to : Int) : Int × St := (stepOf rs width most s to).getD (-1, St.zero)
theorem exMark_bd (s : St) (m : Bool) : 0 ≤ exMark s m ∧ exMark s m ≤ 3000 := by unfold exMark; split <;> omega
theorem exLooks_bd (s : St) (l : Int) : 0 ≤ exLooks s l ∧ exLooks s l ≤ 3000 := by unfold exLooks; split <;> omega
/-- What is known of a line that is possible. -/
theorem fits_item {rs : List Item} {after to width : Int} (h : 0 ≤ (lineBad rs after to width).1) : itemsValid rs = true ∧ -1 ≤ after ∧ after < to ∧ to < rs.length ∧ isCostB (itAt rs to.toNat).cost = true := by
  obtain ⟨hv, hl, _⟩ := fitsB_iff.1 (lineBad_fits h)
  have hb := lineOk_bd hl
  refine ⟨hv, hb.1, hb.2.1, hb.2.2, ?_⟩
  have hm : mayB rs to = true := by
    simp only [lineOk, Bool.and_eq_true] at hl; exact hl.2.1
  simp only [mayB, Bool.and_eq_true] at hm
  exact cost_of_valid (itAt_valid (itemsValid_iff.1 hv).1 (by omega)) (break_kind hm.2)
theorem stepOf_bd {rs : List Item} {width most : Int} {s e : St} {to k : Int} (h : stepOf rs width most s to = some (k, e)) :
    100 ≤ k ∧ k ≤ 210006000 ∧ e.at_ = to ∧ -1 ≤ s.at_ ∧ s.at_ < to ∧ to < rs.length ∧ 0 ≤ e.looks ∧ e.looks ≤ 3 ∧ e.mark = (itAt rs to.toNat).mark ∧ itemsValid rs = true := by
  unfold stepOf at h
  split at h
  · cases h
  · rename_i hn
    have h0 : 0 ≤ (lineBad rs s.at_ to width).1 := by omega
    obtain ⟨hv, h1, h2, h3, h4⟩ := fits_item h0
    have h5 := lineBad_bd rs s.at_ to width
    have h6 := costOf_bd ⟨h0, h5.2⟩ h4
    have h7 := exMark_bd s (itAt rs to.toNat).mark
    have h8 := exLooks_bd s (looksOf (lineBad rs s.at_ to width).2 (lineBad rs s.at_ to width).1)
    have h9 := looksOf_bd (lineBad rs s.at_ to width).2 (lineBad rs s.at_ to width).1
    simp only [Option.some.injEq, Prod.mk.injEq] at h
    obtain ⟨hk, rfl⟩ := h
    exact ⟨by omega, by omega, rfl, h1, h2, h3, h9.1, h9.2, rfl, hv⟩

theorem noCases {bad most : Int} (h : bad < 0 ∨ most < bad) : bad < 0 ∨ (decide (bad < 0) = false ∧ most < bad) := by
  rcases Int.lt_or_le bad 0 with h0 | h0
  · exact .inl h0
  · exact .inr ⟨by simpa using h0, by omega⟩
set_option maxRecDepth 100000 in
set_option maxHeartbeats 6400000 in
theorem c_lineCost (A : Option Addr) (n c : Nat) (rs : List Item) (width most : Int) (at0 : Int) (mk : Bool) (lk : Int) (to : Int) (w : World) (hR : ItemsAt w A n c rs) (hlk : 0 ≤ lk ∧ lk ≤ 3) :
    Calls Try.prog 45 #[.slice A n c, .int .i64 width, .int .i64 most, .agg #[.int .i64 at0, .bool mk, .int .i64 lk], .int .i64 to] w fun e w' => e = .returned (.tuple #[.int .i64 (stepOut rs width most ⟨at0, mk, lk⟩ to).1, .agg #[.int .i64 (stepOut rs width most ⟨at0, mk, lk⟩ to).2.at_, .bool (stepOut rs width most ⟨at0, mk, lk⟩ to).2.mark, .int .i64 (stepOut rs width most ⟨at0, mk, lk⟩ to).2.looks]]) ∧ Below w.heap.size w w' := by
  have hlen := hR.len
  have hbd := hR.bd
  have HLEN := hide hlen
  clear hlen
  obtain ⟨bad, st, HB⟩ : ∃ bad st, Hid (lineBad rs at0 to width = (bad, st)) := ⟨_, _, rfl⟩
  have q8 := (Blk.new w 64 #[.int .i64 at0, .bool mk, .int .i64 lk]).alloc (.cells #[.int .i64 0, .bool false, .int .i64 0] 64)
  have q1 := Blk.new (w.alloc (.cells #[.int .i64 at0, .bool mk, .int .i64 lk] 64)) 64 #[.int .i64 0, .bool false, .int .i64 0]
  have hb0 := bmk (bof w (.cells #[.int .i64 at0, .bool mk, .int .i64 lk] 64)) (.cells #[.int .i64 0, .bool false, .int .i64 0] 64)
  simp only [size_alloc'] at q1
  go_enter Try.func45, Try.ntmps45
  go_wp2_with fail
  refine (c_lineBadness A n c rs at0 to width _ (hR.next hb0)).mono ?_
  rw [unhide HB]
  rintro e w1 ⟨rfl, hb1⟩
  replace q8 := q8.next hb1
  replace q1 := q1.next hb1
  replace hb0 := bnext hb0 hb1
  clear hb1
  have r0 : w1.cell? ⟨w.heap.size + 1, 0, none⟩ = some (.int .i64 0) := q1.cell 0
  have r1 : w1.cell? ⟨w.heap.size + 1, 1, none⟩ = some (.bool false) := q1.cell 1
  have r2 : w1.cell? ⟨w.heap.size + 1, 2, none⟩ = some (.int .i64 0) := q1.cell 2
  have f0 := q1.frozen 0
  have f1 := q1.frozen 1
  have f2 := q1.frozen 2
  by_cases hno : bad < 0 ∨ most < bad
  · have H : Hid (stepOut rs width most ⟨at0, mk, lk⟩ to = (-1, ⟨0, false, 0⟩)) := by
      show _ = _; rw [stepOut, stepOf, unhide HB, if_pos hno]; rfl
    clear HB q8 q1
    rcases noCases hno with h | ⟨h, h'⟩
    all_goals
      go_wp2
      rw [unhide H]
      refine bodyPost_ret (v := .tuple #[.int .i64 (-1), .agg #[.int .i64 0, .bool false, .int .i64 0]]) (by simp [results, Try.results45, go_sem, *]) rfl ⟨rfl, ?_⟩
      repeat (refine Below.setCell ?_ (by dsimp only; omega) _)
      exact hb0
  · have hbad0 : 0 ≤ bad := by omega
    have hbm : bad ≤ most := by omega
    have hbt := lineBad_bd rs at0 to width
    rw [unhide HB] at hbt
    have hb3 : bad ≤ 10000 := hbt.2
    obtain ⟨hv, ha1, ha2, ha3, hct⟩ := fits_item (rs := rs) (after := at0) (to := to) (width := width) (by rw [unhide HB]; exact hbad0)
    rw [unhide HLEN] at ha3
    obtain ⟨m, rfl⟩ := Int.eq_ofNat_of_zero_le (show 0 ≤ to by omega)
    have hmn : m < n := by omega
    obtain ⟨b, off, r, rfl, hbl, hr, h0, h1, h2, h3, h4, h5, h6⟩ := (hR.next hb0).at_ hmn
    have hit := itAt_of hr
    rw [Int.toNat_natCast, hit] at hct
    obtain ⟨cst, HC⟩ : ∃ x, Hid (costOf bad r.cost = x) := ⟨_, rfl⟩
    obtain ⟨L, HL⟩ : ∃ x, Hid (looksOf st bad = x) := ⟨_, rfl⟩
    have hcb := costOf_bd ⟨hbad0, hb3⟩ hct
    rw [unhide HC] at hcb
    have hLb := looksOf_bd st bad
    rw [unhide HL] at hLb
    obtain ⟨hcb0, hcb1⟩ := hcb
    obtain ⟨hL0, hL1⟩ := hLb
    have H : Hid (stepOut rs width most ⟨at0, mk, lk⟩ (m : Int) = (cst + exMark ⟨at0, mk, lk⟩ r.mark + exLooks ⟨at0, mk, lk⟩ L, ⟨(m : Int), r.mark, L⟩)) := by
      show _ = _
      rw [stepOut, stepOf, unhide HB, if_neg hno]
      simp only [Int.toNat_natCast, hit, unhide HC, unhide HL, Option.getD_some]
    have HCT := hide hct
    have p0 : w1.cell? ⟨w.heap.size, 0, none⟩ = some (.int .i64 at0) := q8.cell 0
    have p1 : w1.cell? ⟨w.heap.size, 1, none⟩ = some (.bool mk) := q8.cell 1
    have p2 : w1.cell? ⟨w.heap.size, 2, none⟩ = some (.int .i64 lk) := q8.cell 2
    have hg1 : decide (bad < 0) = false := by simpa using hbad0
    have hg2 : decide (most < bad) = false := by simpa using hbm
    clear HB hbt hv hct hit hr hno
    go_wp2
    go_region_held3 (fun w' => w'.cell? ⟨b, off + m * 7 + 6, none⟩ = some (.bool r.mark))
      (first | go_keep)
      ((first | (go_at_call 65; refine (c_looksOf st bad ⟨hbad0, hb3⟩ _).mono ?_; rintro e w2 ⟨rfl, rfl⟩)))
    all_goals
      rw [unhide HL]
      have u8 := (q8.alloc (.cells #[.int .i64 m, .bool r.mark, .int .i64 L] 64)).drew
      have u1 := (q1.alloc (.cells #[.int .i64 m, .bool r.mark, .int .i64 L] 64)).drew
      have u4 := (Blk.new w1 64 #[.int .i64 m, .bool r.mark, .int .i64 L]).drew
      have hb2 := (bmk hb0 (.cells #[.int .i64 m, .bool r.mark, .int .i64 L] 64)).drew
      have k5 : (w1.alloc (.cells #[.int .i64 m, .bool r.mark, .int .i64 L] 64)).drew.cell? ⟨b, off + m * 7 + 5, none⟩ = some (.int .i64 r.cost) := ((bof w1 (.cells #[.int .i64 m, .bool r.mark, .int .i64 L] 64)).cell (p := ⟨b, off + m * 7 + 5, none⟩) hbl).trans h5
      obtain ⟨wX, HWX⟩ : ∃ x, Hid (x = (w1.alloc (.cells #[.int .i64 m, .bool r.mark, .int .i64 L] 64)).drew) := ⟨_, rfl⟩
      rw [← unhide HWX] at u8 u1 u4 hb2 k5 ⊢
      have p0 : wX.cell? ⟨w.heap.size, 0, none⟩ = some (.int .i64 at0) := u8.cell 0
      have p1 : wX.cell? ⟨w.heap.size, 1, none⟩ = some (.bool mk) := u8.cell 1
      have p2 : wX.cell? ⟨w.heap.size, 2, none⟩ = some (.int .i64 lk) := u8.cell 2
      have r0 : wX.cell? ⟨w.heap.size + 1, 0, none⟩ = some (.int .i64 0) := u1.cell 0
      have r1 : wX.cell? ⟨w.heap.size + 1, 1, none⟩ = some (.bool false) := u1.cell 1
      have r2 : wX.cell? ⟨w.heap.size + 1, 2, none⟩ = some (.int .i64 0) := u1.cell 2
      have s0 : wX.cell? ⟨w1.heap.size, 0, none⟩ = some (.int .i64 m) := u4.cell 0
      have s1 : wX.cell? ⟨w1.heap.size, 1, none⟩ = some (.bool r.mark) := u4.cell 1
      have s2 : wX.cell? ⟨w1.heap.size, 2, none⟩ = some (.int .i64 L) := u4.cell 2
      have f0 := u1.frozen 0
      have f1 := u1.frozen 1
      have f2 := u1.frozen 2
      clear u8 u1 u4 q8 q1 hb0 h0 h1 h2 h3 h4 h5 h6 HWX HL
      obtain ⟨rm, hrm⟩ : ∃ x, Hid (x = r.mark) := ⟨_, rfl⟩
      rw [← unhide hrm] at H s1 ⊢
      obtain ⟨K, HK⟩ : ∃ K, Hid (K = cst + exMark ⟨at0, mk, lk⟩ rm + exLooks ⟨at0, mk, lk⟩ L) := ⟨_, rfl⟩
      rw [← unhide HK] at H
      clear hrm
      have hcase : (0 ≤ at0 ∧ (1 < lk - L ∨ (¬ 1 < lk - L ∧ lk - L < -1) ∨ (¬ 1 < lk - L ∧ ¬ lk - L < -1))) ∨ ¬ 0 ≤ at0 := by omega
      rcases hcase with ⟨hat, hd | ⟨hd1, hd⟩ | ⟨hd1, hd2⟩⟩ | hat
      all_goals
        cases mk <;> cases rm
        all_goals
          have hK := unhide HK
          simp [exMark, exLooks, *] at hK
          have HK2 := hide hK
          clear HK hK
          go_wp2_with (go_at_call 66; refine (c_costOf bad r.cost ⟨hbad0, hb3⟩ (unhide HCT) _).mono ?_; rintro e w3 ⟨rfl, rfl⟩; rw [unhide HC])
          go_region
          all_goals
            go_wp2
            rw [unhide H]
            refine bodyPost_ret (v := .tuple #[.int .i64 K, .agg #[.int .i64 m, .bool _, .int .i64 L]]) (by simp [results, Try.results45, go_sem, *]; exact (unhide HK2).symm) rfl ⟨rfl, ?_⟩
            try refine Below.drew ?_
            repeat (refine Below.setCell ?_ (by dsimp only; omega) _)
            first | exact hb2.drew | exact hb2
end Go.Proofs.Ytadcbigioldejaa
