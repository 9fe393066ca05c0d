/- The cost of a line behind another one: contract. · The cost of breaks: plain words; the extra cost, the reference's. · BreaksCost on both sides: contracts. · The reference's BreaksCost: contract. · The best breaks in plain words; laws of these words. · Costs of breaks, best and first breaks in plain words: their laws. · The map of the chooser: keys, elements, what is known in it. No condition. -/
import Derived.Test.YtlklkloadefihaaMf
import Derived.Deep.RegionHeld3
import Derived.Maps.OwnSet
import Derived.DeepKeys4
namespace Go.Proofs.Ytlklkloadefihaa
open Go.RowKit
set_option linter.unusedVariables false

/-- Where a line ends, whether there is a mark, how it looks. -/
structure St where
  at_ : Int
  mark : Bool
  looks : Int
  deriving DecidableEq
def St.zero : St := ⟨0, false, 0⟩
def exMark (s : St) (m : Bool) : Int := if 0 ≤ s.at_ ∧ s.mark = true ∧ m = true then 3000 else 0
def exLooks (s : St) (l : Int) : Int := if 0 ≤ s.at_ ∧ (1 < s.looks - l ∨ s.looks - l < -1) then 3000 else 0
def stepOf (rs : List Item) (width most : Int) (s : St) (to : Int) : Option (Int × St) :=
  if (lineBad rs s.at_ to width).1 < 0 ∨ most < (lineBad rs s.at_ to width).1 then none else
    some (costOf (lineBad rs s.at_ to width).1 (itAt rs to.toNat).cost + exMark s (itAt rs to.toNat).mark + exLooks s (looksOf (lineBad rs s.at_ to width).2 (lineBad rs s.at_ to width).1),
      ⟨to, (itAt rs to.toNat).mark, looksOf (lineBad rs s.at_ to width).2 (lineBad rs s.at_ to width).1⟩)
def stepOut (rs : List Item) (width most : Int) (s : St) (to : Int) : Int × St := (stepOf rs width most s to).getD (-1, St.zero)
theorem exMark_bd (s : St) (m : Bool) : 0 ≤ exMark s m ∧ exMark s m ≤ 3000 := by unfold exMark; split <;> omega
theorem exLooks_bd (s : St) (l : Int) : 0 ≤ exLooks s l ∧ exLooks s l ≤ 3000 := by unfold exLooks; split <;> omega
/-- What is known of a line that is possible. -/
theorem fits_item {rs : List Item} {after to width : Int} (h : 0 ≤ (lineBad rs after to width).1) : itemsValid rs = true ∧ -1 ≤ after ∧ after < to ∧ to < rs.length ∧ isCostB (itAt rs to.toNat).cost = true := by
  obtain ⟨hv, hl, _⟩ := fitsB_iff.1 (lineBad_fits h)
  have hb := lineOk_bd hl
  refine ⟨hv, hb.1, hb.2.1, hb.2.2, ?_⟩
  have hm : mayB rs to = true := by
    simp only [lineOk, Bool.and_eq_true] at hl; exact hl.2.1
  simp only [mayB, Bool.and_eq_true] at hm
  exact cost_of_valid (itAt_valid (itemsValid_iff.1 hv).1 (by omega)) (break_kind hm.2)
theorem stepOf_bd {rs : List Item} {width most : Int} {s e : St} {to k : Int} (h : stepOf rs width most s to = some (k, e)) :
    100 ≤ k ∧ k ≤ 210006000 ∧ e.at_ = to ∧ -1 ≤ s.at_ ∧ s.at_ < to ∧ to < rs.length ∧ 0 ≤ e.looks ∧ e.looks ≤ 3 ∧ e.mark = (itAt rs to.toNat).mark ∧ itemsValid rs = true := by
  unfold stepOf at h
  split at h
  · cases h
  · rename_i hn
    have h0 : 0 ≤ (lineBad rs s.at_ to width).1 := by omega
    obtain ⟨hv, h1, h2, h3, h4⟩ := fits_item h0
    have h5 := lineBad_bd rs s.at_ to width
    have h6 := costOf_bd ⟨h0, h5.2⟩ h4
    have h7 := exMark_bd s (itAt rs to.toNat).mark
    have h8 := exLooks_bd s (looksOf (lineBad rs s.at_ to width).2 (lineBad rs s.at_ to width).1)
    have h9 := looksOf_bd (lineBad rs s.at_ to width).2 (lineBad rs s.at_ to width).1
    simp only [Option.some.injEq, Prod.mk.injEq] at h
    obtain ⟨hk, rfl⟩ := h
    exact ⟨by omega, by omega, rfl, h1, h2, h3, h9.1, h9.2, rfl, hv⟩

theorem noCases {bad most : Int} (h : bad < 0 ∨ most < bad) : bad < 0 ∨ (decide (bad < 0) = false ∧ most < bad) := by
  rcases Int.lt_or_le bad 0 with h0 | h0
  · exact .inl h0
  · exact .inr ⟨by simpa using h0, by omega⟩
set_option maxRecDepth 100000 in
set_option maxHeartbeats 6400000 in
theorem c_lineCost (A : Option Addr) (n c : Nat) (rs : List Item) (width most : Int) (at0 : Int) (mk : Bool) (lk : Int) (to : Int) (w : World) (hR : ItemsAt w A n c rs) (hlk : 0 ≤ lk ∧ lk ≤ 3) :
    Calls Try.prog 55 #[.slice A n c, .int .i64 width, .int .i64 most, .agg #[.int .i64 at0, .bool mk, .int .i64 lk], .int .i64 to] w fun e w' => e = .returned (.tuple #[.int .i64 (stepOut rs width most ⟨at0, mk, lk⟩ to).1, .agg #[.int .i64 (stepOut rs width most ⟨at0, mk, lk⟩ to).2.at_, .bool (stepOut rs width most ⟨at0, mk, lk⟩ to).2.mark, .int .i64 (stepOut rs width most ⟨at0, mk, lk⟩ to).2.looks]]) ∧ Below w.heap.size w w' := by
  have hlen := hR.len
  have hbd := hR.bd
  have HLEN := hide hlen
  clear hlen
  obtain ⟨bad, st, HB⟩ : ∃ bad st, Hid (lineBad rs at0 to width = (bad, st)) := ⟨_, _, rfl⟩
  have q8 := (Blk.new w 71 #[.int .i64 at0, .bool mk, .int .i64 lk]).alloc (.cells #[.int .i64 0, .bool false, .int .i64 0] 71)
  have q1 := Blk.new (w.alloc (.cells #[.int .i64 at0, .bool mk, .int .i64 lk] 71)) 71 #[.int .i64 0, .bool false, .int .i64 0]
  have hb0 := bmk (bof w (.cells #[.int .i64 at0, .bool mk, .int .i64 lk] 71)) (.cells #[.int .i64 0, .bool false, .int .i64 0] 71)
  simp only [size_alloc'] at q1
  go_enter Try.func55, Try.ntmps55
  go_wp2_with fail
  refine (c_lineBadness A n c rs at0 to width _ (hR.next hb0)).mono ?_
  rw [unhide HB]
  rintro e w1 ⟨rfl, hb1⟩
  replace q8 := q8.next hb1
  replace q1 := q1.next hb1
  replace hb0 := bnext hb0 hb1
  clear hb1
  have r0 : w1.cell? ⟨w.heap.size + 1, 0, none⟩ = some (.int .i64 0) := q1.cell 0
  have r1 : w1.cell? ⟨w.heap.size + 1, 1, none⟩ = some (.bool false) := q1.cell 1
  have r2 : w1.cell? ⟨w.heap.size + 1, 2, none⟩ = some (.int .i64 0) := q1.cell 2
  have f0 := q1.frozen 0
  have f1 := q1.frozen 1
  have f2 := q1.frozen 2
  by_cases hno : bad < 0 ∨ most < bad
  · have H : Hid (stepOut rs width most ⟨at0, mk, lk⟩ to = (-1, ⟨0, false, 0⟩)) := by
      show _ = _; rw [stepOut, stepOf, unhide HB, if_pos hno]; rfl
    clear HB q8 q1
    rcases noCases hno with h | ⟨h, h'⟩
    all_goals
      go_wp2
      rw [unhide H]
      refine bodyPost_ret (v := .tuple #[.int .i64 (-1), .agg #[.int .i64 0, .bool false, .int .i64 0]]) (by simp [results, Try.results55, go_sem, *]) rfl ⟨rfl, ?_⟩
      repeat (refine Below.setCell ?_ (by dsimp only; omega) _)
      exact hb0
  · have hbad0 : 0 ≤ bad := by omega
    have hbm : bad ≤ most := by omega
    have hbt := lineBad_bd rs at0 to width
    rw [unhide HB] at hbt
    have hb3 : bad ≤ 10000 := hbt.2
    obtain ⟨hv, ha1, ha2, ha3, hct⟩ := fits_item (rs := rs) (after := at0) (to := to) (width := width) (by rw [unhide HB]; exact hbad0)
    rw [unhide HLEN] at ha3
    obtain ⟨m, rfl⟩ := Int.eq_ofNat_of_zero_le (show 0 ≤ to by omega)
    have hmn : m < n := by omega
    obtain ⟨b, off, r, rfl, hbl, hr, h0, h1, h2, h3, h4, h5, h6⟩ := (hR.next hb0).at_ hmn
    have hit := itAt_of hr
    rw [Int.toNat_natCast, hit] at hct
    obtain ⟨cst, HC⟩ : ∃ x, Hid (costOf bad r.cost = x) := ⟨_, rfl⟩
    obtain ⟨L, HL⟩ : ∃ x, Hid (looksOf st bad = x) := ⟨_, rfl⟩
    have hcb := costOf_bd ⟨hbad0, hb3⟩ hct
    rw [unhide HC] at hcb
    have hLb := looksOf_bd st bad
    rw [unhide HL] at hLb
    obtain ⟨hcb0, hcb1⟩ := hcb
    obtain ⟨hL0, hL1⟩ := hLb
    have H : Hid (stepOut rs width most ⟨at0, mk, lk⟩ (m : Int) = (cst + exMark ⟨at0, mk, lk⟩ r.mark + exLooks ⟨at0, mk, lk⟩ L, ⟨(m : Int), r.mark, L⟩)) := by
      show _ = _
      rw [stepOut, stepOf, unhide HB, if_neg hno]
      simp only [Int.toNat_natCast, hit, unhide HC, unhide HL, Option.getD_some]
    have HCT := hide hct
    have p0 : w1.cell? ⟨w.heap.size, 0, none⟩ = some (.int .i64 at0) := q8.cell 0
    have p1 : w1.cell? ⟨w.heap.size, 1, none⟩ = some (.bool mk) := q8.cell 1
    have p2 : w1.cell? ⟨w.heap.size, 2, none⟩ = some (.int .i64 lk) := q8.cell 2
    have hg1 : decide (bad < 0) = false := by simpa using hbad0
    have hg2 : decide (most < bad) = false := by simpa using hbm
    clear HB hbt hv hct hit hr hno
    go_wp2
    go_region_held3 (fun w' => w'.cell? ⟨b, off + m * 7 + 6, none⟩ = some (.bool r.mark))
      (first | go_keep)
      ((first | (go_at_call 81; refine (c_looksOf st bad ⟨hbad0, hb3⟩ _).mono ?_; rintro e w2 ⟨rfl, rfl⟩)))
    all_goals
      rw [unhide HL]
      have u8 := (q8.alloc (.cells #[.int .i64 m, .bool r.mark, .int .i64 L] 71)).drew
      have u1 := (q1.alloc (.cells #[.int .i64 m, .bool r.mark, .int .i64 L] 71)).drew
      have u4 := (Blk.new w1 71 #[.int .i64 m, .bool r.mark, .int .i64 L]).drew
      have hb2 := (bmk hb0 (.cells #[.int .i64 m, .bool r.mark, .int .i64 L] 71)).drew
      have k5 : (w1.alloc (.cells #[.int .i64 m, .bool r.mark, .int .i64 L] 71)).drew.cell? ⟨b, off + m * 7 + 5, none⟩ = some (.int .i64 r.cost) := ((bof w1 (.cells #[.int .i64 m, .bool r.mark, .int .i64 L] 71)).cell (p := ⟨b, off + m * 7 + 5, none⟩) hbl).trans h5
      obtain ⟨wX, HWX⟩ : ∃ x, Hid (x = (w1.alloc (.cells #[.int .i64 m, .bool r.mark, .int .i64 L] 71)).drew) := ⟨_, rfl⟩
      rw [← unhide HWX] at u8 u1 u4 hb2 k5 ⊢
      have p0 : wX.cell? ⟨w.heap.size, 0, none⟩ = some (.int .i64 at0) := u8.cell 0
      have p1 : wX.cell? ⟨w.heap.size, 1, none⟩ = some (.bool mk) := u8.cell 1
      have p2 : wX.cell? ⟨w.heap.size, 2, none⟩ = some (.int .i64 lk) := u8.cell 2
      have r0 : wX.cell? ⟨w.heap.size + 1, 0, none⟩ = some (.int .i64 0) := u1.cell 0
      have r1 : wX.cell? ⟨w.heap.size + 1, 1, none⟩ = some (.bool false) := u1.cell 1
      have r2 : wX.cell? ⟨w.heap.size + 1, 2, none⟩ = some (.int .i64 0) := u1.cell 2
      have s0 : wX.cell? ⟨w1.heap.size, 0, none⟩ = some (.int .i64 m) := u4.cell 0
      have s1 : wX.cell? ⟨w1.heap.size, 1, none⟩ = some (.bool r.mark) := u4.cell 1
      have s2 : wX.cell? ⟨w1.heap.size, 2, none⟩ = some (.int .i64 L) := u4.cell 2
      have f0 := u1.frozen 0
      have f1 := u1.frozen 1
      have f2 := u1.frozen 2
      clear u8 u1 u4 q8 q1 hb0 h0 h1 h2 h3 h4 h5 h6 HWX HL
      obtain ⟨rm, hrm⟩ : ∃ x, Hid (x = r.mark) := ⟨_, rfl⟩
      rw [← unhide hrm] at H s1 ⊢
      obtain ⟨K, HK⟩ : ∃ K, Hid (K = cst + exMark ⟨at0, mk, lk⟩ rm + exLooks ⟨at0, mk, lk⟩ L) := ⟨_, rfl⟩
      rw [← unhide HK] at H
      clear hrm
      have hcase : (0 ≤ at0 ∧ (1 < lk - L ∨ (¬ 1 < lk - L ∧ lk - L < -1) ∨ (¬ 1 < lk - L ∧ ¬ lk - L < -1))) ∨ ¬ 0 ≤ at0 := by omega
      rcases hcase with ⟨hat, hd | ⟨hd1, hd⟩ | ⟨hd1, hd2⟩⟩ | hat
      all_goals
        cases mk <;> cases rm
        all_goals
          have hK := unhide HK
          simp [exMark, exLooks, *] at hK
          have HK2 := hide hK
          clear HK hK
          go_wp2_with (go_at_call 82; refine (c_costOf bad r.cost ⟨hbad0, hb3⟩ (unhide HCT) _).mono ?_; rintro e w3 ⟨rfl, rfl⟩; rw [unhide HC])
          go_region
          all_goals
            go_wp2
            rw [unhide H]
            refine bodyPost_ret (v := .tuple #[.int .i64 K, .agg #[.int .i64 m, .bool _, .int .i64 L]]) (by simp [results, Try.results55, go_sem, *]; exact (unhide HK2).symm) rfl ⟨rfl, ?_⟩
            try refine Below.drew ?_
            repeat (refine Below.setCell ?_ (by dsimp only; omega) _)
            first | exact hb2.drew | exact hb2
end Go.Proofs.Ytlklkloadefihaa

namespace Go.Proofs.Ytlklkloadefihaa
open Go.RowKit
set_option linter.unusedVariables false

def costSum (rs : List Item) (width most : Int) : St → List Int → Option Int
  | _, [] => some 0
  | s, to :: t => match stepOf rs width most s to with
    | none => none
    | some (k, e) => (costSum rs width most e t).map (k + ·)
def St.start : St := ⟨-1, false, 0⟩
def brOk (rs : List Item) (width most : Int) (bs : List Int) : Bool := argsB rs width most && (decide (bs ≠ []) && decide (bs.getLast? = some ((rs.length : Int) - 1)))
def brCost (rs : List Item) (width most : Int) (bs : List Int) : Int := if brOk rs width most bs then (costSum rs width most St.start bs).getD (-1) else -1
theorem stepOut_some {rs : List Item} {width most : Int} {s : St} {to : Int} (h : 0 ≤ (stepOut rs width most s to).1) : stepOf rs width most s to = some (stepOut rs width most s to) := by
  unfold stepOut at h ⊢
  cases hs : stepOf rs width most s to with
  | none => rw [hs] at h; simp at h
  | some p => rfl
theorem stepOut_none {rs : List Item} {width most : Int} {s : St} {to : Int} (h : (stepOut rs width most s to).1 < 0) : stepOf rs width most s to = none := by
  cases hs : stepOf rs width most s to with
  | none => rfl
  | some p =>
    obtain ⟨k, e⟩ := p
    have := stepOf_bd hs
    rw [stepOut, hs] at h; simp at h; omega
theorem costSum_len {rs : List Item} {width most : Int} : ∀ (bs : List Int) (s : St) (c : Int), costSum rs width most s bs = some c → -1 ≤ s.at_ → s.at_ < rs.length → (bs.length : Int) ≤ rs.length - 1 - s.at_ ∧ 100 * (bs.length : Int) ≤ c ∧ c ≤ 210006000 * (bs.length : Int)
  | [], s, c, h, _, _ => by simp [costSum] at h; subst h; simp; omega
  | to :: t, s, c, h, h1, h2 => by
    rw [costSum] at h
    split at h
    · cases h
    · rename_i k e hs
      have hb := stepOf_bd hs
      cases ht : costSum rs width most e t with
      | none => rw [ht] at h; cases h
      | some c' =>
        rw [ht] at h
        simp at h
        have ih := costSum_len t e c' ht (by omega) (by omega)
        simp only [List.length_cons]
        omega
theorem costSum_step {rs : List Item} {width most sm k : Int} {s e : St} {to : Int} {t : List Int} {X : Option Int} (hX : X = (costSum rs width most s (to :: t)).map (sm + ·)) (hs : stepOf rs width most s to = some (k, e)) : X = (costSum rs width most e t).map (sm + k + ·) := by
  rw [hX, costSum, hs]
  dsimp only
  cases costSum rs width most e t <;> simp; omega
theorem costSum_stop {rs : List Item} {width most sm : Int} {s : St} {to : Int} {t : List Int} {X : Option Int} (hX : X = (costSum rs width most s (to :: t)).map (sm + ·)) (hs : stepOf rs width most s to = none) : X = none := by
  rw [hX, costSum, hs]; rfl
theorem costSum_end {rs : List Item} {width most sm : Int} {s : St} {X : Option Int} (hX : X = (costSum rs width most s []).map (sm + ·)) : X = some sm := by
  rw [hX, costSum]; simp
/-- The look of what was before does not count for the first line. -/
theorem stepOf_first {rs : List Item} {width most : Int} {m m' : Bool} {l l' : Int} {to : Int} : stepOf rs width most ⟨-1, m, l⟩ to = stepOf rs width most ⟨-1, m', l'⟩ to := by
  simp [stepOf, exMark, exLooks]
theorem costSum_first {rs : List Item} {width most : Int} {m m' : Bool} {l l' : Int} (bs : List Int) : costSum rs width most ⟨-1, m, l⟩ bs = costSum rs width most ⟨-1, m', l'⟩ bs := by
  cases bs with
  | nil => rfl
  | cons to t => rw [costSum, costSum, stepOf_first]

set_option maxHeartbeats 1600000 in
theorem c_l8Between (A : Option Addr) (n c : Nat) (rs : List Item) (after : Int) (m : Nat) (before looks : Int) (w : World) (hR : ItemsAt w A n c rs) (ha : -1 ≤ after ∧ after < n) (hm : m < n) (hb : 0 ≤ before ∧ before ≤ 3) (hl : 0 ≤ looks ∧ looks ≤ 3) :
    Calls Try.prog 65 #[.slice A n c, .int .i64 after, .int .i64 m, .int .i64 before, .int .i64 looks] w fun e w' => e = .returned (.int .i64 (exMark ⟨after, decide (0 ≤ after) && (itAt rs after.toNat).mark, before⟩ (itAt rs m).mark + exLooks ⟨after, decide (0 ≤ after) && (itAt rs after.toNat).mark, before⟩ looks)) ∧ Below w.heap.size w w' := by
  have hbd := hR.bd
  obtain ⟨hb0, hb1⟩ := hb
  obtain ⟨hl0, hl1⟩ := hl
  obtain ⟨b, off, r, rfl, hbl, hr, h0, h1, h2, h3, h4, h5, h6⟩ := hR.at_ hm
  have hit := itAt_of hr
  rw [hit]
  clear h0 h1 h2 h3 h4 h5 hr hit
  by_cases hat : 0 ≤ after
  · obtain ⟨j, rfl⟩ := Int.eq_ofNat_of_zero_le hat
    obtain ⟨b', off', q, e, hbl', hq, g0, g1, g2, g3, g4, g5, g6⟩ := hR.at_ (k := j) (by omega)
    cases e
    have hiq := itAt_of hq
    rw [Int.toNat_natCast, hiq]
    clear g0 g1 g2 g3 g4 g5 hq hiq
    obtain ⟨K, HK⟩ : ∃ K, Hid (K = exMark ⟨(j : Int), decide (0 ≤ (j : Int)) && q.mark, before⟩ r.mark + exLooks ⟨(j : Int), decide (0 ≤ (j : Int)) && q.mark, before⟩ looks) := ⟨_, rfl⟩
    rw [← unhide HK]
    obtain ⟨qm, hqm⟩ : ∃ x, q.mark = x := ⟨_, rfl⟩
    obtain ⟨rm, hrm⟩ : ∃ x, r.mark = x := ⟨_, rfl⟩
    rw [hqm] at g6 HK
    rw [hrm] at h6 HK
    clear hqm hrm
    have hcase : 1 < max (before - looks) (looks - before) ∨ ¬ 1 < max (before - looks) (looks - before) := by omega
    rcases hcase with hd | hd <;> cases qm <;> cases rm
    all_goals
      have hK := unhide HK
      have hd' : (1 < before - looks ∨ before - looks < -1) ↔ (1 < max (before - looks) (looks - before)) := by omega
      simp [exMark, exLooks, hd', hd] at hK
      have HK2 := hide hK
      clear HK hK hd'
      go_enter Try.func65, Try.ntmps65
      go_wp2
      all_goals
        go_ret
        exact ⟨by rw [unhide HK2] <;> rfl, Below.refl _ _⟩
  · obtain rfl : after = -1 := by omega
    have e1 : ∀ mk rm l, exMark ⟨-1, mk, before⟩ rm + exLooks ⟨-1, mk, before⟩ l = 0 := by simp [exMark, exLooks]
    rw [e1]
    go_enter Try.func65, Try.ntmps65
    go_wp2
    go_ret
    exact ⟨rfl, Below.refl _ _⟩
end Go.Proofs.Ytlklkloadefihaa

namespace Go.Proofs.Ytlklkloadefihaa
open Go.RowKit
set_option linter.unusedVariables false

theorem brOk_cases {rs : List Item} {width most : Int} {bs : List Int} : brOk rs width most bs = true ↔ argsB rs width most = true ∧ bs.getLast? = some ((rs.length : Int) - 1) := by
  simp [brOk]
  intro _ h hn
  subst hn
  simp at h
theorem brCost_not {rs : List Item} {width most : Int} {bs : List Int} (h : brOk rs width most bs = false) : brCost rs width most bs = -1 := by simp [brCost, h]
theorem brCost_ok {rs : List Item} {width most : Int} {bs : List Int} (h : brOk rs width most bs = true) : brCost rs width most bs = (costSum rs width most St.start bs).getD (-1) := by simp [brCost, h]
theorem last_get {bs : List Int} {j : Nat} {x : Int} (hl : bs.length = j + 1) (h : bs[j]? = some x) : bs.getLast? = some x := by
  rw [List.getLast?_eq_getElem?, hl]; exact h
theorem brOk_last {rs : List Item} {width most : Int} {bs : List Int} {x : Int} (hl : bs.getLast? = some x) (hx : ¬ x = (rs.length : Int) - 1) : brOk rs width most bs = false := by
  cases h : brOk rs width most bs
  · rfl
  · have := (brOk_cases.1 h).2; rw [hl] at this; exact absurd (Option.some.inj this) hx
theorem brOk_args {rs : List Item} {width most : Int} {bs : List Int} (h : argsB rs width most = false) : brOk rs width most bs = false := by simp [brOk, h]

set_option maxRecDepth 100000 in
set_option maxHeartbeats 3200000 in
theorem c_breaksCost (A : Option Addr) (n c : Nat) (rs : List Item) (width most : Int) (A2 : Option Addr) (n2 c2 : Nat) (bs : List Int) (w : World) (hR : ItemsAt w A n c rs) (hI : IntsAt w A2 n2 c2 bs) (hn2 : n2 ≤ 100000000) :
    Calls Try.prog 28 #[.slice A n c, .int .i64 width, .int .i64 most, .slice A2 n2 c2] w fun e w' => e = .returned (.int .i64 (brCost rs width most bs)) ∧ Below w.heap.size w w' := by
  have hlen := hR.len
  have hbd := hR.bd
  have hbd2 := hI.bd
  have hlen2 := hI.len
  have HLEN := hide hlen
  have HLEN2 := hide hlen2
  clear hlen hlen2
  go_enter Try.func28, Try.ntmps28
  go_wp2_with fail
  refine (c_lineArguments A n c rs width most _ hR).mono ?_
  rintro e w1 ⟨rfl, hb1⟩
  cases hargs : argsB rs width most
  · have H := hide (brCost_not (brOk_args (bs := bs) hargs))
    go_wp2
    go_ret
    exact ⟨by rw [unhide H] <;> rfl, hb1⟩
  · rcases n2 with _ | j
    · obtain rfl : bs = [] := List.eq_nil_of_length_eq_zero (unhide HLEN2)
      have H : Hid (brCost rs width most [] = -1) := brCost_not (by simp [brOk])
      go_wp2
      go_ret
      exact ⟨by rw [unhide H] <;> rfl, hb1⟩
    · obtain ⟨b, off, x, rfl, hbl, hx, hcx⟩ := (hI.next hb1).at_ (k := j) (by omega)
      have hlast := last_get (unhide HLEN2) hx
      have hz : (((j + 1 : Nat) : Int) == 0) = false := by simp <;> omega
      have hz2 : ((j : Int) + 1 == 0) = false := by simp <;> omega
      by_cases hxn : x = (n : Int) - 1
      case' neg =>
        have H : Hid (brCost rs width most bs = -1) := brCost_not (brOk_last hlast (by rw [unhide HLEN]; exact hxn))
        have hne : (x != (n : Int) - 1) = true := by simpa using hxn
        clear hx hlast hxn
        go_wp2
        go_ret
        exact ⟨by rw [unhide H] <;> rfl, hb1⟩
      case' pos =>
        have hok : brOk rs width most bs = true := brOk_cases.2 ⟨hargs, by rw [hlast, hxn, unhide HLEN]⟩
        have HB : Hid (brCost rs width most bs = (costSum rs width most St.start bs).getD (-1)) := brCost_ok hok
        obtain ⟨X, HX⟩ : ∃ X, Hid (X = costSum rs width most St.start bs) := ⟨_, rfl⟩
        rw [← unhide HX] at HB
        have hne : (x != (n : Int) - 1) = false := by simpa using hxn
        have hv := (argsB_iff.1 hargs).1
        have hn0 := (argsB_iff.1 hargs).2.1
        have hn60 := (itemsValid_iff.1 hv).2
        rw [unhide HLEN] at hn60 hn0
        clear hx hlast hxn hok hargs hv
        go_wp2
        have q := Blk.new w1 71 #[.int .i64 (-1), .bool false, .int .i64 0]
        have hb2 := bmk hb1 (.cells #[.int .i64 (-1), .bool false, .int .i64 0] 71)
        have hgB := hb1.size
        obtain ⟨gB, HG⟩ : ∃ g, Hid (g = w1.heap.size) := ⟨_, rfl⟩
        rw [← unhide HG] at q hgB ⊢
        clear hcx
        go_loopw [9, 40] (fun sv i wr => ∃ (k : Nat) (sm sa : Int) (sk : Bool) (sl : Int), k ≤ j + 1 ∧ i = .int .i64 k ∧ sv = .int .i64 sm ∧ -1 ≤ sa ∧ sa < n ∧ 0 ≤ sl ∧ sl ≤ 3 ∧ 0 ≤ sm ∧ sm ≤ 210006000 * (sa + 1) ∧ Hid (X = (costSum rs width most ⟨sa, sk, sl⟩ (bs.drop k)).map (sm + ·)) ∧ Blk wr gB 71 #[.int .i64 sa, .bool sk, .int .i64 sl] ∧ Below w.heap.size w wr) (fun _ i _ => j + 1 - (intOf i).toNat)
        case atStart => exact ⟨0, 0, -1, false, 0, by omega, rfl, rfl, by omega, by omega, by omega, by omega, by omega, by omega, by show _ = _; rw [unhide HX]; simp [St.start], q, hb2⟩
        case round =>
          clear q hb2 HX
          obtain ⟨k, sm, sa, sk, sl, hk, rfl, rfl, hsa0, hsa1, hsl0, hsl1, hsm0, hsm1, hgo, q, hb⟩ := hrel
          have p0 : wr.cell? ⟨gB, 0, none⟩ = some (.int .i64 sa) := q.cell 0
          have p1 : wr.cell? ⟨gB, 1, none⟩ = some (.bool sk) := q.cell 1
          have p2 : wr.cell? ⟨gB, 2, none⟩ = some (.int .i64 sl) := q.cell 2
          by_cases hlt : k < j + 1
          · obtain ⟨b1, off1, y, e1, hbl1, hy, hcy⟩ := (hI.next hb).at_ hlt
            cases e1
            have hgo2 := unhide hgo
            rw [drop_get hy] at hgo2
            have HGO := hide hgo2
            clear hgo hy hgo2
            obtain ⟨K, ea, ek, el, HE⟩ : ∃ K ea ek el, Hid (stepOut rs width most ⟨sa, sk, sl⟩ y = (K, ⟨ea, ek, el⟩)) := ⟨_, _, _, _, rfl⟩
            go_wp2_with fail
            refine (c_lineCost _ n c rs width most sa sk sl y _ (hR.next hb) ⟨hsl0, hsl1⟩).mono ?_
            rw [unhide HE]
            rintro e w2 ⟨rfl, hb2⟩
            have q2 := q.next hb2
            have hbb := bnext hb hb2
            have u2 := q2.alloc (.cells #[.int .i64 ea, .bool ek, .int .i64 el] 71)
            have hb3 := bmk (bnext hb hb2) (.cells #[.int .i64 ea, .bool ek, .int .i64 el] 71)
            have hlt2 : gB < w2.heap.size := q2.lt
            clear q hb hb2 p0 p1 p2
            by_cases h0 : K < 0
            · have H : Hid (X = none) := costSum_stop (unhide HGO) (stepOut_none (by rw [unhide HE]; exact h0))
              clear HGO HE u2 q2
              go_wp2
              go_ret
              rw [unhide HB, unhide H]
              exact ⟨rfl, hb3⟩
            · have hst := stepOut_some (rs := rs) (width := width) (most := most) (s := ⟨sa, sk, sl⟩) (to := y) (by rw [unhide HE]; dsimp only; omega)
              rw [unhide HE] at hst
              obtain ⟨t1, t2, t3, t4, t5, t6, t7, t8, t9, t10⟩ := stepOf_bd hst
              dsimp only at t3 t4 t5 t7 t8 t9
              subst t3
              rw [unhide HLEN] at t6
              have H : Hid (X = (costSum rs width most ⟨ea, ek, el⟩ (bs.drop (k + 1))).map (sm + K + ·)) := costSum_step (unhide HGO) hst
              have c0 : w2.cell? ⟨gB, 0, none⟩ = some (.int .i64 sa) := q2.cell 0
              have c1 : w2.cell? ⟨gB, 1, none⟩ = some (.bool sk) := q2.cell 1
              have c2 : w2.cell? ⟨gB, 2, none⟩ = some (.int .i64 sl) := q2.cell 2
              have f0 := q2.frozen 0
              have f1 := q2.frozen 1
              have f2 := q2.frozen 2
              have v2 := (((q2.set_ 0 (.int .i64 ea)).set_ 1 (.bool ek)).set_ 2 (.int .i64 el)).alloc (.cells #[.int .i64 ea, .bool ek, .int .i64 el] 71)
              have hb4 := bmk (((hbb.setCell (p := ⟨gB, 0, none⟩) hgB (.int .i64 ea)).setCell (p := ⟨gB, 1, none⟩) hgB (.bool ek)).setCell (p := ⟨gB, 2, none⟩) hgB (.int .i64 el)) (.cells #[.int .i64 ea, .bool ek, .int .i64 el] 71)
              clear HGO HE hst u2 q2 hb3 t9 t10
              go_wp2
              go_roundw
              case rel => exact ⟨k + 1, sm + K, ea, ek, el, by omega, by go_num, rfl, by omega, by omega, t7, t8, by omega, by omega, H, v2, hb4⟩
              case measure => simp [intOf] <;> omega
          · obtain rfl : k = j + 1 := by omega
            have hgo2 := unhide hgo
            rw [drop_end (by rw [unhide HLEN2]; exact Nat.le_refl _)] at hgo2
            have H : Hid (X = some sm) := costSum_end hgo2
            clear hgo hgo2
            go_wp2
            go_ret
            rw [unhide HB, unhide H]
            exact ⟨rfl, hb⟩
end Go.Proofs.Ytlklkloadefihaa

namespace Go.Proofs.Ytlklkloadefihaa
open Go.RowKit
set_option linter.unusedVariables false

def markOf (rs : List Item) (after : Int) : Bool := decide (0 ≤ after) && (itAt rs after.toNat).mark
theorem stepOf_parts {rs : List Item} {width most : Int} {s : St} {to bad : Int} {st : Bool} (h : lineBad rs s.at_ to width = (bad, st)) :
    stepOf rs width most s to = if bad < 0 ∨ most < bad then none else some (costOf bad (itAt rs to.toNat).cost + (exMark s (itAt rs to.toNat).mark + exLooks s (looksOf st bad)), ⟨to, (itAt rs to.toNat).mark, looksOf st bad⟩) := by
  rw [stepOf, h]; simp only [Int.add_assoc]
theorem costSum_long {rs : List Item} {width most : Int} {bs : List Int} (h0 : 0 < rs.length) (h : rs.length < bs.length) : costSum rs width most St.start bs = none := by
  cases hc : costSum rs width most St.start bs with
  | none => rfl
  | some c => have := costSum_len bs St.start c hc (by simp [St.start]) (by simp [St.start]; omega); simp [St.start] at this; omega
theorem brCost_eq {rs : List Item} {width most : Int} {bs : List Int} (hv : itemsValid rs = true) (hw : inB width 0 1000 = true) (hm : inB most 0 10000 = true) (hl : bs.getLast? = some ((rs.length : Int) - 1)) :
    brCost rs width most bs = (costSum rs width most St.start bs).getD (-1) := by
  rcases Nat.eq_zero_or_pos rs.length with h0 | h0
  · have e1 : brCost rs width most bs = -1 := brCost_not (brOk_args (by simp [argsB, h0]))
    have e2 : costSum rs width most St.start bs = none := by
      cases bs with
      | nil => simp at hl
      | cons to t =>
        have hb : (lineBad rs St.start.at_ to width).1 = -1 := by
          rcases Int.lt_or_le to 0 with h | h
          · exact lineBad_low (by simp only [St.start]; omega)
          · exact lineBad_high (by omega)
        rw [costSum, stepOf, hb]; simp
    rw [e1, e2]; rfl
  · exact brCost_ok (brOk_cases.2 ⟨by simp [argsB, hv, hw, hm, h0], hl⟩)
set_option maxRecDepth 100000 in
set_option maxHeartbeats 3200000 in
theorem c_breaksCost' (A : Option Addr) (n c : Nat) (rs : List Item) (width most : Int) (A2 : Option Addr) (n2 c2 : Nat) (bs : List Int) (w : World) (hR : ItemsAt w A n c rs) (hI : IntsAt w A2 n2 c2 bs) (hn2 : n2 ≤ 100000000) :
    Calls Try.prog 34 #[.slice A n c, .int .i64 width, .int .i64 most, .slice A2 n2 c2] w fun e w' => e = .returned (.int .i64 (brCost rs width most bs)) ∧ Below w.heap.size w w' := by
  have hlen := hR.len
  have hbd := hR.bd
  have hbd2 := hI.bd
  have hlen2 := hI.len
  have HLEN := hide hlen
  have HLEN2 := hide hlen2
  clear hlen hlen2
  go_enter Try.func34, Try.ntmps34
  go_wp2_with fail
  refine (c_itemsValid' A n c rs _ hR).mono ?_
  rintro e w1 ⟨rfl, hb1⟩
  cases hv : itemsValid rs
  case' false =>
    have H : Hid (brCost rs width most bs = -1) := brCost_not (brOk_args (by simp [argsB, hv]))
    clear hv
    go_wp2
    go_ret
    exact ⟨by rw [unhide H] <;> rfl, hb1⟩
  case' true =>
    have HV := hide hv
    cases hw : inB width 0 1000
    case' false =>
      have H : Hid (brCost rs width most bs = -1) := brCost_not (brOk_args (by simp [argsB, hw]))
      clear hv
      go_wp2_with (go_at_call 47; refine (c_l1In _ _ _ _).mono ?_; rintro e w' ⟨rfl, rfl⟩)
      go_ret
      exact ⟨by rw [unhide H] <;> rfl, hb1⟩
    case' true =>
      cases hm : inB most 0 10000
      case' false =>
        have H : Hid (brCost rs width most bs = -1) := brCost_not (brOk_args (by simp [argsB, hm]))
        clear hv
        go_wp2_with (go_at_call 47; refine (c_l1In _ _ _ _).mono ?_; rintro e w' ⟨rfl, rfl⟩)
        go_ret
        exact ⟨by rw [unhide H] <;> rfl, hb1⟩
      case' true =>
        rcases n2 with _ | j
        case' zero =>
          obtain rfl : bs = [] := List.eq_nil_of_length_eq_zero (unhide HLEN2)
          have H : Hid (brCost rs width most [] = -1) := brCost_not (by simp [brOk])
          clear hv
          go_wp2_with (go_at_call 47; refine (c_l1In _ _ _ _).mono ?_; rintro e w' ⟨rfl, rfl⟩)
          go_ret
          exact ⟨by rw [unhide H] <;> rfl, hb1⟩
        case' succ =>
          have hn60 := (itemsValid_iff.1 hv).2
          rw [unhide HLEN] at hn60
          obtain ⟨b, off, x, rfl, hbl, hx, hcx⟩ := (hI.next hb1).at_ (k := j) (by omega)
          have hlast := last_get (unhide HLEN2) hx
          have hz : (((j + 1 : Nat) : Int) == 0) = false := by simp <;> omega
          have hz2 : ((j : Int) + 1 == 0) = false := by simp <;> omega
          by_cases hlong : 60 < j + 1
          case' pos =>
            have H : Hid (brCost rs width most bs = -1) := by
              show _ = _
              cases hok : brOk rs width most bs
              · exact brCost_not hok
              · have hn0 := (argsB_iff.1 (brOk_cases.1 hok).1).2.1
                rw [brCost_ok hok, costSum_long hn0 (by rw [unhide HLEN, unhide HLEN2]; omega)]; rfl
            have hl1 : decide ((60 : Int) < (j : Int) + 1) = true := by simp; omega
            have hl2 : (60 : Int) < (j : Int) + 1 := by omega
            clear hx hlast hv
            go_wp2_with (go_at_call 47; refine (c_l1In _ _ _ _).mono ?_; rintro e w' ⟨rfl, rfl⟩)
            go_ret
            exact ⟨by rw [unhide H] <;> rfl, hb1⟩
          case' neg =>
            have hl1 : decide ((60 : Int) < (j : Int) + 1) = false := by simp; omega
            by_cases hxn : x = (n : Int) - 1
            case' neg =>
              have H : Hid (brCost rs width most bs = -1) := brCost_not (brOk_last hlast (by rw [unhide HLEN]; exact hxn))
              have hne : (x != (n : Int) - 1) = true := by simpa using hxn
              clear hx hlast hxn hv
              go_wp2_with (go_at_call 47; refine (c_l1In _ _ _ _).mono ?_; rintro e w' ⟨rfl, rfl⟩)
              go_ret
              exact ⟨by rw [unhide H] <;> rfl, hb1⟩
            case' pos =>
              have HB : Hid (brCost rs width most bs = (costSum rs width most St.start bs).getD (-1)) := brCost_eq hv hw hm (by rw [hlast, hxn, unhide HLEN])
              obtain ⟨X, HX⟩ : ∃ X, Hid (X = costSum rs width most St.start bs) := ⟨_, rfl⟩
              rw [← unhide HX] at HB
              have hne : (x != (n : Int) - 1) = false := by simpa using hxn
              have hj60 : j + 1 ≤ 60 := by omega
              clear hx hlast hxn hlong hv
              go_wp2_with (go_at_call 47; refine (c_l1In _ _ _ _).mono ?_; rintro e w' ⟨rfl, rfl⟩)
              clear hcx
              go_loopw [9, 10, 11, 12] (fun av bv sv i wr => ∃ (k : Nat) (sm sa sl : Int), k ≤ j + 1 ∧ i = .int .i64 k ∧ sv = .int .i64 sm ∧ av = .int .i64 sa ∧ bv = .int .i64 sl ∧ -1 ≤ sa ∧ sa < n ∧ 0 ≤ sl ∧ sl ≤ 3 ∧ 0 ≤ sm ∧ sm ≤ 210006000 * (sa + 1) ∧ Hid (X = (costSum rs width most ⟨sa, markOf rs sa, sl⟩ (bs.drop k)).map (sm + ·)) ∧ Below w.heap.size w wr) (fun _ _ _ i _ => j + 1 - (intOf i).toNat)
              case atStart => exact ⟨0, 0, -1, 1, by omega, rfl, rfl, rfl, rfl, by omega, by omega, by omega, by omega, by omega, by omega, by show _ = _; rw [unhide HX, St.start, costSum_first (m' := markOf rs (-1)) (l' := 1)]; simp, hb1⟩
              case round =>
                clear hb1 HX
                obtain ⟨k, sm, sa, sl, hk, rfl, rfl, rfl, rfl, hsa0, hsa1, hsl0, hsl1, hsm0, hsm1, hgo, hb⟩ := hrel
                by_cases hlt : k < j + 1
                · obtain ⟨b1, off1, y, e1, hbl1, hy, hcy⟩ := (hI.next hb).at_ hlt
                  cases e1
                  have hgo2 := unhide hgo
                  rw [drop_get hy] at hgo2
                  have HGO := hide hgo2
                  clear hgo hy hgo2
                  obtain ⟨bad, st, HE⟩ : ∃ bad st, Hid (lineBad rs sa y width = (bad, st)) := ⟨_, _, rfl⟩
                  have HS := hide (stepOf_parts (most := most) (s := ⟨sa, markOf rs sa, sl⟩) (unhide HE))
                  go_wp2_with fail
                  refine (c_lineBadness' _ n c rs sa y width _ (hR.next hb)).mono ?_
                  rw [unhide HE]
                  rintro e w2 ⟨rfl, hb2⟩
                  replace hb := bnext hb hb2
                  clear hb2
                  by_cases h0 : bad < 0 ∨ most < bad
                  · have H : Hid (X = none) := costSum_stop (unhide HGO) (by rw [unhide HS, if_pos h0])
                    clear HGO HE HS
                    rcases noCases h0 with h | ⟨h, h'⟩
                    all_goals
                      go_wp2
                      go_ret
                      rw [unhide HB, unhide H]
                      exact ⟨rfl, hb⟩
                  · have hbad0 : 0 ≤ bad := by omega
                    have hbm : bad ≤ most := by omega
                    have hg1 : decide (bad < 0) = false := by simpa using hbad0
                    have hg2 : decide (most < bad) = false := by simpa using hbm
                    have hb3 := (lineBad_bd rs sa y width).2
                    rw [unhide HE] at hb3
                    obtain ⟨_, y1, y2, y3, hct⟩ := fits_item (rs := rs) (after := sa) (to := y) (width := width) (by rw [unhide HE]; exact hbad0)
                    rw [unhide HLEN] at y3
                    have hst := unhide HS
                    rw [if_neg h0] at hst
                    obtain ⟨m, rfl⟩ := Int.eq_ofNat_of_zero_le (show 0 ≤ y by omega)
                    have hmn : m < n := by omega
                    obtain ⟨bi, offi, r, rfl, hbli, hr, i0, i1, i2, i3, i4, i5, i6⟩ := (hR.next hb).at_ hmn
                    have hit := itAt_of hr
                    rw [Int.toNat_natCast] at hst hct
                    have hmk : markOf rs (m : Int) = (itAt rs m).mark := by simp [markOf]
                    rw [← hmk] at hst
                    have hbds := stepOf_bd hst
                    have H := hide (costSum_step (unhide HGO) hst)
                    rw [hit] at H hct hbds
                    obtain ⟨cst, HC⟩ : ∃ x, Hid (costOf bad r.cost = x) := ⟨_, rfl⟩
                    obtain ⟨L, HL⟩ : ∃ x, Hid (looksOf st bad = x) := ⟨_, rfl⟩
                    rw [unhide HC, unhide HL] at H hbds
                    have hcb := costOf_bd ⟨hbad0, hb3⟩ hct
                    rw [unhide HC] at hcb
                    obtain ⟨B, HBT⟩ : ∃ x, Hid (exMark ⟨sa, markOf rs sa, sl⟩ (markOf rs (m : Int)) + exLooks ⟨sa, markOf rs sa, sl⟩ L = x) := ⟨_, rfl⟩
                    rw [unhide HBT] at H
                    have hB0 := exMark_bd ⟨sa, markOf rs sa, sl⟩ (markOf rs (m : Int))
                    have hB1 := exLooks_bd ⟨sa, markOf rs sa, sl⟩ L
                    have hB2 : 0 ≤ B ∧ B ≤ 6000 := by rw [← unhide HBT]; omega
                    obtain ⟨t1, t2, t3, t4, t5, t6, t7, t8, t9, t10⟩ := hbds
                    have HBB : Hid (exMark ⟨sa, decide (0 ≤ sa) && (itAt rs sa.toNat).mark, sl⟩ (itAt rs m).mark + exLooks ⟨sa, decide (0 ≤ sa) && (itAt rs sa.toNat).mark, sl⟩ L = B) := by
                      show _ = _; rw [← hmk]; exact unhide HBT
                    have HCT := hide hct
                    clear HGO HE HS hst hr hit t1 t2 t3 t4 t5 t6 t9 t10 hB0 hB1 hct h0 hmk i0 i1 i2 i3 i4 i6
                    dsimp only at t7 t8
                    go_wp2_with (first
                      | (go_at_call 63; refine (c_looksOf' st bad ⟨hbad0, hb3⟩ _).mono ?_; rintro e w3 ⟨rfl, rfl⟩; rw [unhide HL])
                      | (go_at_call 64; refine (c_costOf' bad r.cost ⟨hbad0, hb3⟩ (unhide HCT) _).mono ?_; rintro e w3 ⟨rfl, rfl⟩; rw [unhide HC]))
                    refine (c_l8Between _ n c rs sa m sl L _ (hR.next hb) ⟨hsa0, hsa1⟩ hmn ⟨hsl0, hsl1⟩ ⟨t7, t8⟩).mono ?_
                    rw [unhide HBB]
                    rintro e w4 ⟨rfl, hb4⟩
                    replace hb := bnext hb hb4
                    clear hb4 HBB HBT HC HL i5
                    obtain ⟨hB20, hB21⟩ := hB2
                    obtain ⟨hcb0, hcb1⟩ := hcb
                    have hsm3 : sm + (cst + B) = sm + cst + B := by omega
                    rw [hsm3] at H
                    clear hsm3
                    go_wp2
                    go_roundw
                    case rel => exact ⟨k + 1, _, (m : Int), L, by omega, by go_num, rfl, rfl, rfl, by omega, by omega, t7, t8, by omega, by omega, H, hb⟩
                    case measure => simp [intOf] <;> omega
                · obtain rfl : k = j + 1 := by omega
                  have hgo2 := unhide hgo
                  rw [drop_end (by rw [unhide HLEN2]; exact Nat.le_refl _)] at hgo2
                  have H : Hid (X = some sm) := costSum_end hgo2
                  clear hgo hgo2
                  go_wp2
                  go_ret
                  rw [unhide HB, unhide H]
                  exact ⟨rfl, hb⟩
end Go.Proofs.Ytlklkloadefihaa

namespace Go.Proofs.Ytlklkloadefihaa
open Go.RowKit
set_option linter.unusedVariables false

/-- The least cost of all that follows, and the line that comes next. -/
structure Ch where
  cost : Int
  nx : St
  deriving DecidableEq
def Ch.zero : Ch := ⟨0, St.zero⟩
def Ch.none : Ch := ⟨-1, St.zero⟩
def updC (rs : List Item) (width most : Int) (B : St → Ch) (s : St) (c : Ch) (to : Nat) : Ch :=
  match stepOf rs width most s to with
  | Option.none => c
  | some (k, e) => if 0 ≤ (B e).cost ∧ (c.cost < 0 ∨ k + (B e).cost < c.cost) then ⟨k + (B e).cost, e⟩ else c
/-- After the first j of n - 1, n - 2, .. -/
def accN (rs : List Item) (width most : Int) (B : St → Ch) (s : St) : Nat → Ch
  | 0 => Ch.none
  | j + 1 => updC rs width most B s (accN rs width most B s j) (rs.length - 1 - j)
def left (rs : List Item) (s : St) : Nat := ((rs.length : Int) - 1 - s.at_).toNat
def bestF (rs : List Item) (width most : Int) : Nat → St → Ch
  | 0, _ => Ch.zero
  | d + 1, s => if s.at_ = (rs.length : Int) - 1 then Ch.zero else accN rs width most (bestF rs width most d) s (left rs s)
def best (rs : List Item) (width most : Int) (s : St) : Ch := bestF rs width most (left rs s) s
section
variable {rs : List Item} {width most : Int}
theorem accN_congr {B B' : St → Ch} {s : St} (h : ∀ e : St, s.at_ < e.at_ → e.at_ < rs.length → B e = B' e) : ∀ j, accN rs width most B s j = accN rs width most B' s j
  | 0 => rfl
  | j + 1 => by
    rw [accN, accN, accN_congr h j, updC, updC]
    cases hs : stepOf rs width most s ((rs.length - 1 - j : Nat) : Int) with
    | none => rfl
    | some p =>
      obtain ⟨k, e⟩ := p
      have hb := stepOf_bd hs
      have := h e (by omega) (by omega)
      dsimp only
      rw [this]
theorem left_lt {s e : St} (h : s.at_ < e.at_) (he : e.at_ < rs.length) : left rs e < left rs s := by unfold left; omega
theorem bestF_fuel : ∀ (d : Nat) (s : St), -1 ≤ s.at_ → s.at_ < rs.length → left rs s ≤ d → bestF rs width most d s = best rs width most s := by
  intro d
  induction d using Nat.strongRecOn with
  | ind d ih =>
    intro s h1 h2 h3
    unfold best
    rcases Nat.eq_zero_or_pos (left rs s) with h0 | h0
    · have hat : s.at_ = (rs.length : Int) - 1 := by unfold left at h0; omega
      rw [h0]
      cases d with
      | zero => rfl
      | succ d => rw [bestF, bestF, if_pos hat]
    · have hat : ¬ s.at_ = (rs.length : Int) - 1 := by unfold left at h0; omega
      obtain ⟨m, hm⟩ : ∃ m, left rs s = m + 1 := ⟨left rs s - 1, by omega⟩
      obtain ⟨d', rfl⟩ : ∃ d', d = d' + 1 := ⟨d - 1, by omega⟩
      rw [hm, bestF, bestF, if_neg hat, if_neg hat]
      refine accN_congr (fun e he1 he2 => ?_) _
      have hl := left_lt he1 he2
      rw [ih d' (by omega) e (by omega) he2 (by omega)]
      rw [ih m (by omega) e (by omega) he2 (by omega)]
theorem best_end {s : St} (h : s.at_ = (rs.length : Int) - 1) : best rs width most s = Ch.zero := by
  have h0 : left rs s = 0 := by unfold left; omega
  rw [best, h0]; rfl
theorem best_eq {s : St} (h1 : -1 ≤ s.at_) (h2 : s.at_ < (rs.length : Int) - 1) : best rs width most s = accN rs width most (best rs width most) s (left rs s) := by
  have h0 : 0 < left rs s := by unfold left; omega
  obtain ⟨m, hm⟩ : ∃ m, left rs s = m + 1 := ⟨left rs s - 1, by omega⟩
  have hat : ¬ s.at_ = (rs.length : Int) - 1 := by omega
  have e : best rs width most s = bestF rs width most (m + 1) s := by rw [best, hm]
  rw [e, bestF, if_neg hat]
  refine accN_congr (fun e he1 he2 => ?_) _
  have hl := left_lt he1 he2
  exact bestF_fuel m e (by omega) he2 (by omega)
/-- What is known of a choice: none; or a line that is possible, with the best behind it. -/
def ChOk (rs : List Item) (width most : Int) (s : St) (c : Ch) : Prop :=
  c = Ch.none ∨ ∃ k, stepOf rs width most s c.nx.at_ = some (k, c.nx) ∧ 0 ≤ (best rs width most c.nx).cost ∧ c.cost = k + (best rs width most c.nx).cost
theorem upd_ok {s : St} {c : Ch} {to : Nat} (h : ChOk rs width most s c) : ChOk rs width most s (updC rs width most (best rs width most) s c to) := by
  unfold updC
  cases hs : stepOf rs width most s to with
  | none => exact h
  | some p =>
    obtain ⟨k, e⟩ := p
    dsimp only
    split
    · rename_i hc
      have hb := stepOf_bd hs
      exact .inr ⟨k, by rw [hb.2.2.1]; exact hs, hc.1, rfl⟩
    · exact h
theorem acc_ok (s : St) : ∀ j, ChOk rs width most s (accN rs width most (best rs width most) s j)
  | 0 => .inl rfl
  | j + 1 => by rw [accN]; exact upd_ok (acc_ok s j)
theorem best_bd : ∀ (d : Nat) (s : St), -1 ≤ s.at_ → s.at_ < rs.length → left rs s ≤ d → -1 ≤ (best rs width most s).cost ∧ (best rs width most s).cost ≤ 210006000 * ((rs.length : Int) - 1 - s.at_)
  | d, s, h1, h2, h3 => by
    induction d using Nat.strongRecOn generalizing s with
    | ind d ih =>
      by_cases hat : s.at_ = (rs.length : Int) - 1
      · rw [best_end hat]; simp [Ch.zero]; omega
      · rw [best_eq h1 (by omega)]
        rcases acc_ok (rs := rs) (width := width) (most := most) s (left rs s) with h | ⟨k, hs, h0, hc⟩
        · rw [h]; simp [Ch.none]; omega
        · have hb := stepOf_bd hs
          have hl := left_lt (rs := rs) (s := s) (e := (accN rs width most (best rs width most) s (left rs s)).nx) (by omega) (by omega)
          have := ih (left rs (accN rs width most (best rs width most) s (left rs s)).nx) (by omega) (accN rs width most (best rs width most) s (left rs s)).nx (by omega) (by omega) (Nat.le_refl _)
          rw [hc]
          omega
theorem best_bound {s : St} (h1 : -1 ≤ s.at_) (h2 : s.at_ < rs.length) : -1 ≤ (best rs width most s).cost ∧ (best rs width most s).cost ≤ 210006000 * ((rs.length : Int) - 1 - s.at_) := best_bd (left rs s) s h1 h2 (Nat.le_refl _)
theorem best_ok {s : St} (h1 : -1 ≤ s.at_) (h2 : s.at_ < (rs.length : Int) - 1) : ChOk rs width most s (best rs width most s) := by
  rw [best_eq h1 h2]; exact acc_ok s _
/-- The last of the costs seen, while the choice is made, is in bounds. -/
theorem acc_bd {s : St} (h1 : -1 ≤ s.at_) (h2 : s.at_ < rs.length) (j : Nat) : -1 ≤ (accN rs width most (best rs width most) s j).cost ∧ (accN rs width most (best rs width most) s j).cost ≤ 210006000 * ((rs.length : Int) - 1 - s.at_) := by
  rcases acc_ok (rs := rs) (width := width) (most := most) s j with h | ⟨k, hs, h0, hc⟩
  · rw [h]; simp [Ch.none]; omega
  · have hb := stepOf_bd hs
    have := best_bound (rs := rs) (width := width) (most := most) (s := (accN rs width most (best rs width most) s j).nx) (by omega) (by omega)
    rw [hc]
    omega
/-- The look of what was before the first line does not count. -/
theorem best_first {m m' : Bool} {l l' : Int} (hn : 0 < rs.length) : best rs width most ⟨-1, m, l⟩ = best rs width most ⟨-1, m', l'⟩ := by
  rw [best_eq (by simp) (by dsimp only; omega), best_eq (by simp) (by dsimp only; omega)]
  have : ∀ j, accN rs width most (best rs width most) ⟨-1, m, l⟩ j = accN rs width most (best rs width most) ⟨-1, m', l'⟩ j := by
    intro j
    induction j with
    | zero => rfl
    | succ j ih => rw [accN, accN, ih, updC, updC, stepOf_first]
  exact this _
def follow (rs : List Item) (width most : Int) : Nat → St → List Int
  | 0, _ => []
  | f + 1, s => if s.at_ = (rs.length : Int) - 1 then [] else (best rs width most s).nx.at_ :: follow rs width most f (best rs width most s).nx
def bestBr (rs : List Item) (width most : Int) : Option (List Int) :=
  if argsB rs width most then (if 0 ≤ (best rs width most St.start).cost then some (follow rs width most rs.length St.start) else Option.none) else Option.none
def bestBreaks (rs : List Item) (width most : Int) : List Int := (bestBr rs width most).getD []
theorem follow_len : ∀ (f : Nat) (s : St), (follow rs width most f s).length ≤ f
  | 0, s => by simp [follow]
  | f + 1, s => by
    rw [follow]; split
    · simp
    · rw [List.length_cons]; have := follow_len f (best rs width most s).nx; omega
theorem bestBreaks_len : (bestBreaks rs width most).length ≤ rs.length := by
  unfold bestBreaks bestBr
  split
  · split
    · exact follow_len _ _
    · simp
  · simp
/-- One line further on the best way. -/
theorem follow_step {s : St} {f : Nat} (h1 : -1 ≤ s.at_) (h2 : s.at_ < (rs.length : Int) - 1) (hf : left rs s ≤ f) (hc : 0 ≤ (best rs width most s).cost) :
    ∃ g, follow rs width most f s = (best rs width most s).nx.at_ :: follow rs width most g (best rs width most s).nx ∧ left rs (best rs width most s).nx ≤ g ∧ 0 ≤ (best rs width most (best rs width most s).nx).cost ∧ s.at_ < (best rs width most s).nx.at_ ∧ (best rs width most s).nx.at_ < rs.length ∧ 0 ≤ (best rs width most s).nx.looks ∧ (best rs width most s).nx.looks ≤ 3 ∧ (best rs width most s).nx.mark = (itAt rs (best rs width most s).nx.at_.toNat).mark := by
  rcases best_ok (rs := rs) (width := width) (most := most) h1 h2 with h | ⟨k, hs, h0, _⟩
  · rw [h] at hc; simp [Ch.none] at hc
  · have hb := stepOf_bd hs
    have hl := left_lt (rs := rs) (s := s) (e := (best rs width most s).nx) (by omega) (by omega)
    obtain ⟨g, rfl⟩ : ∃ g, f = g + 1 := ⟨f - 1, by omega⟩
    refine ⟨g, ?_, by omega, h0, by omega, by omega, hb.2.2.2.2.2.2.1, hb.2.2.2.2.2.2.2.1, hb.2.2.2.2.2.2.2.2.1⟩
    rw [follow, if_neg (by omega)]
theorem follow_end {s : St} {f : Nat} (h : s.at_ = (rs.length : Int) - 1) : follow rs width most f s = [] := by
  cases f with
  | zero => rfl
  | succ f => rw [follow, if_pos h]
end
end Go.Proofs.Ytlklkloadefihaa

namespace Go.Proofs.Ytlklkloadefihaa
open Go.RowKit
set_option linter.unusedVariables false

section
variable {rs : List Item} {width most : Int}
theorem costSum_cons {s : St} {to : Int} {t : List Int} {n : Int} (h : costSum rs width most s (to :: t) = some n) : ∃ k e r, stepOf rs width most s to = some (k, e) ∧ costSum rs width most e t = some r ∧ n = k + r := by
  rw [costSum] at h
  cases hs : stepOf rs width most s to with
  | none => rw [hs] at h; cases h
  | some p =>
    obtain ⟨k, e⟩ := p
    rw [hs] at h
    dsimp only at h
    cases hc : costSum rs width most e t with
    | none => rw [hc] at h; cases h
    | some r => rw [hc] at h; exact ⟨k, e, r, rfl, hc, (Option.some.inj h).symm⟩
theorem costSum_mk {s e : St} {to : Int} {t : List Int} {k r : Int} (hs : stepOf rs width most s to = some (k, e)) (hc : costSum rs width most e t = some r) : costSum rs width most s (to :: t) = some (k + r) := by
  rw [costSum, hs]; dsimp only; rw [hc]; rfl
theorem stepOf_most {s e : St} {to k : Int} {m' : Int} (h : stepOf rs width most s to = some (k, e)) (hm : most ≤ m') : stepOf rs width m' s to = some (k, e) := by
  unfold stepOf at h ⊢
  split at h
  · cases h
  · rename_i hn
    rw [if_neg (by omega)]; exact h
theorem costSum_most {m' : Int} (hm : most ≤ m') : ∀ (bs : List Int) (s : St) (n : Int), costSum rs width most s bs = some n → costSum rs width m' s bs = some n
  | [], _, n, h => h
  | to :: t, s, n, h => by
    obtain ⟨k, e, r, hs, hc, rfl⟩ := costSum_cons h
    exact costSum_mk (stepOf_most hs hm) (costSum_most hm t e r hc)
theorem costSum_ge : ∀ (bs : List Int) (s : St) (n : Int), costSum rs width most s bs = some n → 100 * (bs.length : Int) ≤ n
  | [], _, n, h => by simp [costSum] at h; simp; omega
  | to :: t, s, n, h => by
    obtain ⟨k, e, r, hs, hc, rfl⟩ := costSum_cons h
    have := costSum_ge t e r hc
    have hb := stepOf_bd hs
    rw [List.length_cons]; omega
/-- Every way costs at least the best one. -/
theorem upd_le {s e : St} {c : Ch} {to : Nat} {k : Int} (hs : stepOf rs width most s to = some (k, e)) (h0 : 0 ≤ (best rs width most e).cost) (hc : -1 ≤ c.cost) :
    0 ≤ (updC rs width most (best rs width most) s c to).cost ∧ (updC rs width most (best rs width most) s c to).cost ≤ k + (best rs width most e).cost := by
  have hb := stepOf_bd hs
  unfold updC
  rw [hs]
  dsimp only
  split
  · dsimp only; omega
  · rename_i hn
    by_cases h1 : c.cost < 0
    · exact absurd ⟨h0, .inl h1⟩ hn
    · by_cases h2 : k + (best rs width most e).cost < c.cost
      · exact absurd ⟨h0, .inr h2⟩ hn
      · omega
theorem upd_less {s : St} {c : Ch} {to : Nat} (h : 0 ≤ c.cost) : 0 ≤ (updC rs width most (best rs width most) s c to).cost ∧ (updC rs width most (best rs width most) s c to).cost ≤ c.cost := by
  unfold updC
  cases hs : stepOf rs width most s to with
  | none => dsimp only; omega
  | some p =>
    obtain ⟨k, e⟩ := p
    have hb := stepOf_bd hs
    dsimp only
    split
    · dsimp only; omega
    · omega
theorem acc_less {s : St} {j : Nat} {x : Int} (h : 0 ≤ (accN rs width most (best rs width most) s j).cost ∧ (accN rs width most (best rs width most) s j).cost ≤ x) : ∀ d, 0 ≤ (accN rs width most (best rs width most) s (j + d)).cost ∧ (accN rs width most (best rs width most) s (j + d)).cost ≤ x
  | 0 => h
  | d + 1 => by
    have h1 := acc_less h d
    have h2 := upd_less (rs := rs) (width := width) (most := most) (s := s) (to := rs.length - 1 - (j + d)) h1.1
    rw [← Nat.add_assoc, accN]
    omega
theorem best_step {s e : St} {to k : Int} (h1 : -1 ≤ s.at_) (h2 : s.at_ < (rs.length : Int) - 1) (hs : stepOf rs width most s to = some (k, e)) (h0 : 0 ≤ (best rs width most e).cost) :
    0 ≤ (best rs width most s).cost ∧ (best rs width most s).cost ≤ k + (best rs width most e).cost := by
  have hb := stepOf_bd hs
  rw [best_eq h1 h2]
  obtain ⟨j, hj⟩ : ∃ j : Nat, ((rs.length - 1 - j : Nat) : Int) = to ∧ j < left rs s := ⟨((rs.length : Int) - 1 - to).toNat, by omega, by unfold left; omega⟩
  have hu := upd_le (rs := rs) (width := width) (most := most) (s := s) (e := e) (c := accN rs width most (best rs width most) s j) (to := rs.length - 1 - j) (k := k) (by rw [hj.1]; exact hs) h0 (by
    have := acc_bd (rs := rs) (width := width) (most := most) (s := s) h1 (by omega) j; omega)
  have ha := acc_less (rs := rs) (width := width) (most := most) (s := s) (j := j + 1) (x := k + (best rs width most e).cost) (by rw [accN]; exact hu) (left rs s - (j + 1))
  rwa [show j + 1 + (left rs s - (j + 1)) = left rs s by omega] at ha
theorem best_le : ∀ (bs : List Int) (s : St) (n : Int), -1 ≤ s.at_ → s.at_ < rs.length → costSum rs width most s bs = some n → (bs = [] → s.at_ = (rs.length : Int) - 1) → (∀ x, bs.getLast? = some x → x = (rs.length : Int) - 1) →
    0 ≤ (best rs width most s).cost ∧ (best rs width most s).cost ≤ n
  | [], s, n, h1, h2, h, hn, _ => by
    rw [best_end (hn rfl)]
    simp [costSum] at h
    simp [Ch.zero]; omega
  | to :: t, s, n, h1, h2, h, _, hl => by
    obtain ⟨k, e, r, hs, hc, rfl⟩ := costSum_cons h
    have hb := stepOf_bd hs
    have ih := best_le t e r (by omega) (by omega) hc (fun ht => by subst ht; rw [hb.2.2.1]; exact hl to rfl) (fun x hx => hl x (by
      cases t with
      | nil => cases hx
      | cons a t => rw [List.getLast?_cons_cons]; exact hx))
    have h2' : s.at_ < (rs.length : Int) - 1 := by omega
    have hst := best_step h1 h2' hs ih.1
    omega
/-- What is followed costs the best. -/
theorem follow_cost : ∀ (f : Nat) (s : St), -1 ≤ s.at_ → s.at_ < rs.length → left rs s ≤ f → 0 ≤ (best rs width most s).cost →
    costSum rs width most s (follow rs width most f s) = some (best rs width most s).cost ∧ (s.at_ < (rs.length : Int) - 1 → (follow rs width most f s).getLast? = some ((rs.length : Int) - 1))
  | 0, s, h1, h2, hf, h0 => by
    have hat : s.at_ = (rs.length : Int) - 1 := by unfold left at hf; omega
    refine ⟨?_, fun h => by omega⟩
    rw [best_end hat]; rfl
  | f + 1, s, h1, h2, hf, h0 => by
    by_cases hat : s.at_ = (rs.length : Int) - 1
    · refine ⟨?_, fun h => by omega⟩
      rw [follow_end hat, best_end hat]; rfl
    · rcases best_ok (rs := rs) (width := width) (most := most) h1 (by omega) with h | ⟨k, hs, h3, hc⟩
      · rw [h] at h0; simp [Ch.none] at h0
      · have hb := stepOf_bd hs
        have hl := left_lt (rs := rs) (s := s) (e := (best rs width most s).nx) (by omega) (by omega)
        obtain ⟨i1, i2⟩ := follow_cost f (best rs width most s).nx (by omega) (by omega) (by omega) h3
        rw [follow, if_neg hat]
        refine ⟨?_, fun _ => ?_⟩
        · rw [costSum_mk hs i1, hc]
        · by_cases he : (best rs width most s).nx.at_ = (rs.length : Int) - 1
          · rw [follow_end he]; simp [he]
          · have := i2 (by omega)
            cases hfo : follow rs width most f (best rs width most s).nx with
            | nil => rw [hfo] at this; cases this
            | cons a t => rw [hfo] at this; rw [List.getLast?_cons_cons]; exact this
theorem brCost_cases (bs : List Int) : brCost rs width most bs = -1 ∨ ∃ n, brOk rs width most bs = true ∧ costSum rs width most St.start bs = some n ∧ brCost rs width most bs = n := by
  cases ha : brOk rs width most bs
  · exact .inl (brCost_not ha)
  · cases hc : costSum rs width most St.start bs with
    | none => exact .inl (by rw [brCost_ok ha, hc]; rfl)
    | some n => exact .inr ⟨n, rfl, rfl, by rw [brCost_ok ha, hc]; rfl⟩
theorem costSum_pos {bs : List Int} {n : Int} (h : costSum rs width most St.start bs = some n) : 0 ≤ n := by
  have := costSum_ge _ _ _ h; omega
/-- No breaks cost less than the best cost. -/
theorem brCost_best (bs : List Int) (h : 0 ≤ brCost rs width most bs) : argsB rs width most = true ∧ 0 ≤ (best rs width most St.start).cost ∧ (best rs width most St.start).cost ≤ brCost rs width most bs := by
  rcases brCost_cases (rs := rs) (width := width) (most := most) bs with h1 | ⟨n, ha, hc, hp⟩
  · omega
  · obtain ⟨hargs, hlast⟩ := brOk_cases.1 ha
    have hn := argsB_iff.1 hargs
    have := best_le bs St.start n (by simp [St.start]) (by simp [St.start]; omega) hc (fun e => by rw [e] at hlast; cases hlast) (fun x hx => by rw [hlast] at hx; exact (Option.some.inj hx).symm)
    exact ⟨hargs, this.1, by rw [hp]; exact this.2⟩
theorem bestBr_none_cost (h : bestBr rs width most = none) (bs : List Int) : brCost rs width most bs < 0 := by
  rcases Int.lt_or_le (brCost rs width most bs) 0 with h1 | h1
  · exact h1
  · have := brCost_best bs h1
    rw [bestBr, if_pos this.1, if_pos this.2.1] at h; cases h
theorem bestBr_some_cost {x : List Int} (h : bestBr rs width most = some x) : argsB rs width most = true ∧ brCost rs width most x = (best rs width most St.start).cost ∧ 0 ≤ brCost rs width most x ∧ x.length ≤ rs.length ∧ (∃ n, costSum rs width most St.start x = some n) ∧ x.getLast? = some ((rs.length : Int) - 1) ∧
    ∀ bs, brCost rs width most bs < 0 ∨ brCost rs width most x ≤ brCost rs width most bs := by
  unfold bestBr at h
  split at h
  · rename_i ha
    split at h
    · rename_i h0
      have e := Option.some.inj h
      have hn := argsB_iff.1 ha
      have hf := follow_cost (rs := rs) (width := width) (most := most) rs.length St.start (by simp [St.start]) (by simp [St.start]; omega) (by simp [left, St.start]) h0
      have hl := follow_len (rs := rs) (width := width) (most := most) rs.length St.start
      rw [e] at hf hl
      have hlast := hf.2 (by simp [St.start]; omega)
      have hok : brOk rs width most x = true := brOk_cases.2 ⟨ha, hlast⟩
      have hc : brCost rs width most x = (best rs width most St.start).cost := by rw [brCost_ok hok, hf.1]; rfl
      refine ⟨ha, hc, by omega, hl, ⟨_, hf.1⟩, hlast, fun bs => ?_⟩
      rcases Int.lt_or_le (brCost rs width most bs) 0 with h1 | h1
      · exact .inl h1
      · exact .inr (by rw [hc]; exact (brCost_best bs h1).2.2)
    · cases h
  · cases h
/-- With a greater badness allowed the same breaks cost the same. -/
theorem argsB_most {m' : Int} (h : argsB rs width most = true) (h1 : most ≤ m') (h2 : m' ≤ 10000) : argsB rs width m' = true := by
  rw [argsB_iff] at h ⊢
  exact ⟨h.1, h.2.1, h.2.2.1, by omega, h2⟩
theorem brCost_most {bs : List Int} (h : 0 ≤ brCost rs width most bs) : brCost rs width 10000 bs = brCost rs width most bs ∧ 0 < bs.length ∧ bs.getLast? = some ((rs.length : Int) - 1) ∧ 100 * (bs.length : Int) ≤ brCost rs width most bs := by
  rcases brCost_cases (rs := rs) (width := width) (most := most) bs with h1 | ⟨n, ha, hc, hp⟩
  · omega
  · obtain ⟨hargs, hlast⟩ := brOk_cases.1 ha
    have hm := (argsB_iff.1 hargs).2.2.2.2
    have hok2 : brOk rs width 10000 bs = true := brOk_cases.2 ⟨argsB_most hargs hm (by omega), hlast⟩
    have hc2 := costSum_most hm bs _ _ hc
    refine ⟨by rw [brCost_ok hok2, hc2, hp] <;> rfl, ?_, hlast, by rw [hp]; exact costSum_ge _ _ _ hc⟩
    cases bs with
    | nil => cases hlast
    | cons a t => simp
theorem bestBr_most {x : List Int} (h : bestBr rs width most = some x) : ∃ z, bestBr rs width 10000 = some z ∧ brCost rs width 10000 z ≤ brCost rs width most x := by
  have hx := bestBr_some_cost h
  have hm := brCost_most hx.2.2.1
  cases hz : bestBr rs width 10000 with
  | none => have := bestBr_none_cost hz x; omega
  | some z =>
    have := (bestBr_some_cost hz).2.2.2.2.2.2 x
    exact ⟨z, rfl, by omega⟩
/-! ### first breaks -/
theorem step_of_bad {s : St} {to : Int} (h0 : 0 ≤ (lineBad rs s.at_ to width).1) (hm : (lineBad rs s.at_ to width).1 ≤ most) : ∃ k e, stepOf rs width most s to = some (k, e) ∧ e.at_ = to := by
  refine ⟨_, _, by rw [stepOf, if_neg (by omega)], rfl⟩
theorem firstGo_cost : ∀ (f a : Nat) (l : List Int) (s : St), firstGo rs width most f a = some l → rs.length - a ≤ f → s.at_ = (a : Int) - 1 →
    (∃ n, costSum rs width most s l = some n) ∧ (a < rs.length → l.getLast? = some ((rs.length : Int) - 1)) ∧
    ∀ k x, l[k]? = some x → ∀ to : Int, x < to → (lineBad rs ((s.at_ :: l).getD k 0) to width).1 < 0 ∨ most < (lineBad rs ((s.at_ :: l).getD k 0) to width).1
  | 0, a, l, s, h, hf, hs => by
    simp [firstGo] at h
    subst h
    exact ⟨⟨0, rfl⟩, fun h => by omega, fun k x hx => by simp at hx⟩
  | f + 1, a, l, s, h, hf, hs => by
    rw [firstGo] at h
    split at h
    · rename_i ha
      simp at h
      subst h
      exact ⟨⟨0, rfl⟩, fun h => by omega, fun k x hx => by simp at hx⟩
    · rename_i ha
      split at h
      · cases h
      · rename_i hg
        obtain ⟨J, hJ⟩ : ∃ J, J = lastGood (fitJ rs width most a) rs.length := ⟨_, rfl⟩
        have hgt := lastGood_gt (rs := rs) (width := width) (most := most) (a := a) (J := rs.length) (by omega)
        have hgood := lastGood_good (p := fitJ rs width most a) (J := rs.length) (by omega)
        have hle := lastGood_le (fitJ rs width most a) rs.length
        have hlast : ∀ K, J < K → K ≤ rs.length → fitJ rs width most a K = false := fun K h1 h2 => lastGood_last (by rw [← hJ]; exact h1) h2
        rw [← hJ] at h hgt hgood hle hg
        cases hr : firstGo rs width most f J with
        | none => rw [hr] at h; cases h
        | some l' =>
          rw [hr] at h
          simp only [Option.map_some, Option.some.injEq] at h
          subst h
          have hbad : 0 ≤ (lineBad rs s.at_ ((J : Int) - 1) width).1 ∧ (lineBad rs s.at_ ((J : Int) - 1) width).1 ≤ most := by
            rw [hs]; exact inB_iff.1 hgood
          obtain ⟨k, e, hst, he⟩ := step_of_bad (rs := rs) (width := width) (most := most) (s := s) hbad.1 hbad.2
          obtain ⟨⟨n, hn⟩, i2, i3⟩ := firstGo_cost f J l' e hr (by omega) he
          refine ⟨⟨_, costSum_mk hst hn⟩, fun _ => ?_, fun q x hx to hto => ?_⟩
          · rcases Nat.lt_or_ge J rs.length with h1 | h1
            · have := i2 h1
              cases l' with
              | nil => cases this
              | cons b t => rw [List.getLast?_cons_cons]; exact this
            · have hJn : J = rs.length := by omega
              have hl' : l' = [] := by
                cases f with
                | zero => simp [firstGo] at hr; exact hr
                | succ f => rw [firstGo, if_pos h1] at hr; simpa using hr.symm
              rw [hl', hJn]; rfl
          · cases q with
            | zero =>
              simp at hx
              subst hx
              have e0 : (s.at_ :: ((J : Int) - 1) :: l').getD 0 0 = s.at_ := rfl
              rw [e0]
              rcases Int.lt_or_le to rs.length with h1 | h1
              · have := hlast (to + 1).toNat (by omega) (by omega)
                have e1 : (((to + 1).toNat : Nat) : Int) - 1 = to := by omega
                unfold fitJ at this
                rw [e1, ← hs] at this
                rcases Int.lt_or_le (lineBad rs s.at_ to width).1 0 with h2 | h2
                · exact .inl h2
                · rcases Int.lt_or_le most (lineBad rs s.at_ to width).1 with h3 | h3
                  · exact .inr h3
                  · rw [inB_iff.2 ⟨h2, h3⟩] at this; cases this
              · rw [lineBad_high h1]; omega
            | succ q =>
              have := i3 q x (by simpa using hx) to hto
              have e0 : (s.at_ :: ((J : Int) - 1) :: l').getD (q + 1) 0 = (e.at_ :: l').getD q 0 := by rw [he]; simp
              rw [e0]; exact this
theorem firstBr_some {x : List Int} (h : firstBr rs width most = some x) : 0 ≤ brCost rs width most x ∧ x.length ≤ rs.length ∧
    ∀ k y, x[k]? = some y → ∀ to : Int, y < to → (lineBad rs (((-1 : Int) :: x).getD k 0) to width).1 < 0 ∨ most < (lineBad rs (((-1 : Int) :: x).getD k 0) to width).1 := by
  unfold firstBr at h
  split at h
  · rename_i ha
    have hn := argsB_iff.1 ha
    obtain ⟨⟨n, hc⟩, hl, hk⟩ := firstGo_cost rs.length 0 x St.start h (by omega) (by simp [St.start])
    have hok : brOk rs width most x = true := brOk_cases.2 ⟨ha, hl hn.2.1⟩
    refine ⟨?_, firstGo_len _ _ _ h, hk⟩
    rw [brCost_ok hok, hc]
    exact costSum_pos hc
  · cases h
/-! ### badnesses of breaks that have a cost -/
theorem badsGo_of_cost : ∀ (bs : List Int) (s : St) (n : Int), costSum rs width most s bs = some n → ∃ l, badsGo rs width s.at_ bs = some l ∧ l.length = bs.length ∧ ∀ k b, l[k]? = some b → b = (lineBad rs ((s.at_ :: bs).getD k 0) (bs.getD k 0) width).1 ∧ 0 ≤ b ∧ b ≤ most
  | [], s, n, h => ⟨[], rfl, rfl, by simp⟩
  | to :: t, s, n, h => by
    obtain ⟨k, e, r, hs, hc, rfl⟩ := costSum_cons h
    have hb := stepOf_bd hs
    have hbad : 0 ≤ (lineBad rs s.at_ to width).1 ∧ (lineBad rs s.at_ to width).1 ≤ most := by
      unfold stepOf at hs
      split at hs
      · cases hs
      · omega
    obtain ⟨l, i1, i2, i3⟩ := badsGo_of_cost t e r hc
    refine ⟨(lineBad rs s.at_ to width).1 :: l, ?_, by simp [i2], fun q b hq => ?_⟩
    · rw [badsGo, if_neg (by omega), ← hb.2.2.1, i1]; simp [hb.2.2.1]
    · cases q with
      | zero => simp at hq; subst hq; exact ⟨rfl, hbad⟩
      | succ q =>
        have := i3 q b (by simpa using hq)
        refine ⟨?_, this.2⟩
        rw [this.1, hb.2.2.1]; simp
theorem badsGo_bd : ∀ (bs : List Int) (a : Int) (l : List Int), badsGo rs width a bs = some l → ∀ b ∈ l, 0 ≤ b ∧ b ≤ 10000
  | [], _, l, h => by simp [badsGo] at h; subst h; simp
  | to :: t, a, l, h => by
    rw [badsGo] at h
    split at h
    · cases h
    · rename_i h0
      cases ht : badsGo rs width to t with
      | none => rw [ht] at h; cases h
      | some l' =>
        rw [ht] at h
        simp only [Option.map_some, Option.some.injEq] at h
        subst h
        intro b hb
        rcases List.mem_cons.1 hb with rfl | hb
        · have := lineBad_bd rs a to width; omega
        · exact badsGo_bd t to l' ht b hb
theorem lineBads_bd (bs : List Int) : (∀ b ∈ lineBads rs width bs, 0 ≤ b ∧ b ≤ 10000) ∧ ((lineBads rs width bs).length = 0 ∨ (lineBads rs width bs).length = bs.length) := by
  unfold lineBads
  cases h : badsGo rs width (-1) bs with
  | none => simp
  | some l => exact ⟨badsGo_bd _ _ _ h, .inr (badsGo_len _ _ _ h)⟩
end
end Go.Proofs.Ytlklkloadefihaa

namespace Go.Proofs.Ytlklkloadefihaa
open Go.RowKit Go.Maps
set_option linter.unusedVariables false

theorem mk_laid : laidOutB Try.prog = true := by kernel_rfl
theorem mk_row : (71 : TypeId) < Try.prog.types.size := of_decide_eq_true (by kernel_rfl)
theorem mk_wide : (match Try.prog.underlying 71 with | some (.array _ _) | some (.struct _) => true | _ => false) = true := by rw [Try.underlying71]
set_option maxRecDepth 100000 in
theorem mk_law : WideMaps.KeyLaw Try.prog 71 := deep_law_laid mk_laid (m := 2) (by omega) mk_row (by kernel_rfl) mk_wide
theorem mk_keyed : Keyed Try.prog 71 := Keyed.of_law mk_law
theorem mk_type : Try.prog.keyType 71 = true := by kernel_rfl
theorem mk_cells : Try.prog.cellsOf 71 = 3 := by kernel_rfl
theorem mk_cellsI : Try.prog.cellsOf 3 = 1 := by kernel_rfl
theorem mk_cellsB : Try.prog.cellsOf 4 = 1 := by kernel_rfl
def St.val (s : St) : Value := .agg #[.int .i64 s.at_, .bool s.mark, .int .i64 s.looks]
/-- A state whose numbers are ones of the machine. -/
def St.Wf (s : St) : Prop := -1 ≤ s.at_ ∧ s.at_ ≤ 1000 ∧ 0 ≤ s.looks ∧ s.looks ≤ 3
theorem mk_size : ∃ m, Try.prog.types.size = m + 1 := by
  have h : (71 : Nat) < Try.prog.types.size := mk_row
  exact ⟨Try.prog.types.size - 1, by omega⟩
theorem key_some (s : St) (h : s.Wf) : ∃ kl, keyOf Try.prog 71 s.val = some kl := by
  obtain ⟨m, hm⟩ := mk_size
  obtain ⟨h1, h2, h3, h4⟩ := h
  have w1 : (Lit.int .i64 s.at_).wf = true := WalkArith.wf_i64 (by omega)
  have w2 : (Lit.int .i64 s.looks).wf = true := WalkArith.wf_i64 (by omega)
  unfold keyOf
  rw [Try.underlying71]
  simp only [mk_type, St.val, Value.formed, Try.underlying71, mk_cells, hm]
  simp [Program.keyLits, Try.underlying71, mk_cells, Value.cells, mk_cellsI, mk_cellsB, Try.underlying3, Try.underlying4, w1, w2]
theorem lit_any : Nonempty Lit := ⟨.bool false⟩
noncomputable def keyF (s : St) : Lit := @Classical.epsilon Lit lit_any fun l => keyOf Try.prog 71 s.val = some l
theorem key_is {s : St} (h : s.Wf) : keyOf Try.prog 71 s.val = some (keyF s) := Classical.epsilon_spec (key_some s h)
set_option maxRecDepth 100000 in
theorem keyF_lit {s : St} (h : s.Wf) : WideAt.IsKeyLit (keyF s) := mk_keyed.key (key_is h)
theorem keyF_inj {s s' : St} (h : s.Wf) (h' : s'.Wf) (e : keyF s = keyF s') : s = s' := by
  have a := key_is h
  have b := key_is h'
  rw [← e] at b
  have := mk_keyed.inj a b
  obtain ⟨x, y, z⟩ := s
  obtain ⟨x', y', z'⟩ := s'
  simp [St.val] at this
  obtain ⟨rfl, rfl, rfl⟩ := this
  rfl
def Ch.val (c : Ch) : Value := .agg #[.int .i64 c.cost, .int .i64 c.nx.at_, .bool c.nx.mark, .int .i64 c.nx.looks]
def Ch.dat (c : Ch) : DataW Unit := .agg [.lit (.int .i64 c.cost), .lit (.int .i64 c.nx.at_), .lit (.bool c.nx.mark), .lit (.int .i64 c.nx.looks)]
def rdC : Value → Option (DataW Unit × List MemPlace)
  | .agg cs => match cs.toList with
    | [.int .i64 a, .int .i64 b, .bool m, .int .i64 l] => some (.agg [.lit (.int .i64 a), .lit (.int .i64 b), .lit (.bool m), .lit (.int .i64 l)], [])
    | _ => none
  | _ => none
theorem rdC_mk (c : Ch) : rdC c.val = some (c.dat, []) := rfl
theorem rdC_inv {v : Value} {c : Ch} {ps : List MemPlace} (h : rdC v = some (c.dat, ps)) : v = c.val := by
  unfold rdC at h
  split at h
  · rename_i cs
    split at h
    · rename_i a b m l e
      simp [Ch.dat] at h
      obtain ⟨⟨rfl, rfl, rfl, rfl⟩, _⟩ := h
      have : cs = #[.int .i64 c.cost, .int .i64 c.nx.at_, .bool c.nx.mark, .int .i64 c.nx.looks] := Array.toList_inj.1 e
      rw [this]; rfl
    · cases h
  · cases h
theorem zero_ch (w : World) : (zeroValue 79).run Try.prog w = .ok Ch.zero.val w := by kernel_rfl
/-- Every choice that is known is the right one. -/
def MapOk (rs : List Item) (width most : Int) (D : DataW Unit) : Prop := ∀ s : St, s.Wf → Maps.has D (keyF s) = true → D.atKey (keyF s) Ch.zero.dat = (best rs width most s).dat
section
variable {rs : List Item} {width most : Int} {w : World} {bm cnt : Nat} {D : DataW Unit} {s : St}
theorem look_ch (h : w.ownsMap Try.prog 71 rdC bm cnt D) (ok : MapOk rs width most D) (hs : s.Wf) :
    (Maps.has D (keyF s) = true ∧ (Instr.lookup 75 (.map (some bm)) s.val true).run Try.prog w = .ok (.tuple #[(best rs width most s).val, .bool true]) w) ∨
    (Maps.has D (keyF s) = false ∧ (Instr.lookup 75 (.map (some bm)) s.val true).run Try.prog w = .ok (.tuple #[Ch.zero.val, .bool false]) w) := by
  obtain ⟨v, ps, hrun, hv⟩ := h.look_ok mk_keyed Try.underlying75 (zero_ch w) (rdC_mk Ch.zero) (key_is hs)
  cases hh : Maps.has D (keyF s)
  · right
    rw [atKey_of_not_has hh] at hv
    rw [hh, rdC_inv hv] at hrun
    exact ⟨rfl, hrun⟩
  · left
    rw [ok s hs hh] at hv
    rw [hh, rdC_inv hv] at hrun
    exact ⟨rfl, hrun⟩
theorem look_yes (h : w.ownsMap Try.prog 71 rdC bm cnt D) (ok : MapOk rs width most D) (hs : s.Wf) (hh : Maps.has D (keyF s) = true) :
    (Instr.lookup 75 (.map (some bm)) s.val true).run Try.prog w = .ok (.tuple #[(best rs width most s).val, .bool true]) w := by
  rcases look_ch h ok hs with ⟨_, h2⟩ | ⟨h1, _⟩
  · exact h2
  · rw [hh] at h1; cases h1
theorem look_no (h : w.ownsMap Try.prog 71 rdC bm cnt D) (ok : MapOk rs width most D) (hs : s.Wf) (hh : Maps.has D (keyF s) = false) :
    (Instr.lookup 75 (.map (some bm)) s.val true).run Try.prog w = .ok (.tuple #[Ch.zero.val, .bool false]) w := by
  rcases look_ch h ok hs with ⟨h1, _⟩ | ⟨_, h2⟩
  · rw [hh] at h1; cases h1
  · exact h2
theorem put_ch (h : w.ownsMap Try.prog 71 rdC bm cnt D) (ok : MapOk rs width most D) (hs : s.Wf) (hn : cnt < maxLen) :
    ∃ w' D', (Instr.mapUpdate 75 (.map (some bm)) s.val (best rs width most s).val).run Try.prog w = .ok () w' ∧ w'.ownsMap Try.prog 71 rdC bm (cnt + 1) D' ∧ MapOk rs width most D' ∧ w.grownBy w' (some bm) := by
  obtain ⟨w', hrun, h2, ht⟩ := h.store mk_keyed Try.underlying75 hn (key_is hs) (rdC_mk (best rs width most s))
  refine ⟨w', _, hrun, h2, ?_, ht.grown⟩
  intro s' hs' hh
  by_cases e : keyF s' = keyF s
  · obtain rfl := keyF_inj hs' hs e
    exact atKey_put_same h.isMap (keyF_lit hs) _ _
  · rw [has_put_other e] at hh
    rw [atKey_put_other e]
    exact ok s' hs' hh
end
theorem map_new (w : World) : (w.alloc (.map #[] 0)).ownsMap Try.prog 71 rdC w.heap.size 0 (.map []) := World.ownsMap_made _ _ _ _
theorem mapOk_new (rs : List Item) (width most : Int) : MapOk rs width most (.map []) := by
  intro s _ h
  simp [Maps.has_eq] at h
/-- The chooser in memory: its list, its fields, and its map, in which every choice is right. -/
structure ChM (rs : List Item) (width most : Int) (A : Option Addr) (n c gC bm cnt : Nat) (w : World) : Prop where
  items : ItemsAt w A n c rs
  blk : Blk w gC 77 #[.slice A n c, .int .i64 width, .int .i64 most, .map (some bm)]
  map : ∃ D, w.ownsMap Try.prog 71 rdC bm cnt D ∧ MapOk rs width most D
section
variable {rs : List Item} {width most : Int} {A : Option Addr} {n c gC bm cnt : Nat} {w w' : World}
theorem map_lt {D : DataW Unit} (h : w.ownsMap Try.prog 71 rdC bm cnt D) : bm < w.heap.size := by
  obtain ⟨es, clock, hb, _⟩ := h
  exact (Array.getElem?_eq_some_iff.1 hb).1
theorem map_next {D : DataW Unit} (h : w.ownsMap Try.prog 71 rdC bm cnt D) (hb : Below w.heap.size w w') : w'.ownsMap Try.prog 71 rdC bm cnt D := by
  have hl := map_lt h
  obtain ⟨es, clock, hg, r⟩ := h
  exact ⟨es, clock, (hb.block bm hl).trans hg, r⟩
theorem ChM.next (h : ChM rs width most A n c gC bm cnt w) (hb : Below w.heap.size w w') : ChM rs width most A n c gC bm cnt w' := by
  obtain ⟨D, hm, ok⟩ := h.map
  exact ⟨h.items.next hb, h.blk.next hb, D, map_next hm hb, ok⟩
/-- A list of items lies in another block than a map. -/
theorem items_turn (h : ItemsAt w A n c rs) (hm : ∃ es clock, w.heap[bm]? = some (.map es clock)) (hg : w.grownBy w' (some bm)) : ItemsAt w' A n c rs := by
  refine ⟨⟨Rd.len h.1, fun hn => ?_⟩, h.2⟩
  obtain ⟨b, off, e, hl, hc⟩ := Rd.cells h.1 hn
  obtain ⟨es, clock, hb⟩ := hm
  refine ⟨b, off, e, Nat.lt_of_lt_of_le hl hg.size, fun j u hu => ?_⟩
  have h0 := hc j u hu
  have hne : b ≠ bm := by
    intro e2
    subst e2
    simp [World.cell?, hb] at h0
  rw [← h0]
  exact World.cell?_of_block (hg.block b hl (fun e2 => hne (Option.some.inj e2)))
theorem ChM.turned {D : DataW Unit} {cnt' : Nat} (h : ChM rs width most A n c gC bm cnt w) (hg : w.grownBy w' (some bm)) (hm : w'.ownsMap Try.prog 71 rdC bm cnt' D) (ok : MapOk rs width most D) : ChM rs width most A n c gC bm cnt' w' := by
  obtain ⟨D0, ⟨es, clock, hb, _⟩, _⟩ := h.map
  refine ⟨items_turn h.items ⟨es, clock, hb⟩ hg, h.blk.grown hg (fun e => ?_), D, hm, ok⟩
  have hblk := h.blk
  injection e with e
  subst e
  unfold Blk at hblk
  rw [hb] at hblk
  cases hblk
end
end Go.Proofs.Ytlklkloadefihaa
