/- The cost of breaks: plain words; the extra cost, the reference's. No condition. -/
import Derived.Test.YtadcbigioldejaaCost
namespace Go.Proofs.Ytadcbigioldejaa
open Go.RowKit
set_option linter.unusedVariables false

def costSum (rs : List Item) (width most : Int) : St → List Int → Option Int
  | _, [] => some 0
  | s, to :: t => match stepOf rs width most s to with
    | none => none
    | some (k, e) => (costSum rs width most e t).map (k + ·)
def St.start : St := ⟨-1, false, 0⟩
def brOk (rs : List Item) (width most : Int) (bs : List Int) : Bool := argsB rs width most && (decide (bs ≠ []) && decide (bs.getLast? = some ((rs.length : Int) - 1)))
def brCost (rs : List Item) (width most : Int) (bs : List Int) : Int := if brOk rs width most bs then (costSum rs width most St.start bs).getD (-1) else -1
theorem stepOut_some {rs : List Item} {width most : Int} {s : St} {to : Int} (h : 0 ≤ (stepOut rs width most s to).1) : stepOf rs width most s to = some (stepOut rs width most s to) := by
  unfold stepOut at h ⊢
  cases hs : stepOf rs width most s to with
  | none => rw [hs] at h; simp at h
  | some p => rfl
theorem stepOut_none {rs : List Item} {width most : Int} {s : St} {to : Int} (h : (stepOut rs width most s to).1 < 0) : stepOf rs width most s to = none := by
  cases hs : stepOf rs width most s to with
  | none => rfl
  | some p =>
    obtain ⟨k, e⟩ := p
    have := stepOf_bd hs
    rw [stepOut, hs] at h; simp at h; omega
theorem costSum_len {rs : List Item} {width most : Int} : ∀ (bs : List Int) (s : St) (c : Int), costSum rs width most s bs = some c → -1 ≤ s.at_ → s.at_ < rs.length → (bs.length : Int) ≤ rs.length - 1 - s.at_ ∧ 100 * (bs.length : Int) ≤ c ∧ c ≤ 210006000 * (bs.length : Int)
  | [], s, c, h, _, _ => by simp [costSum] at h; subst h; simp; omega
  | to :: t, s, c, h, h1, h2 => by
    rw [costSum] at h
    split at h
    · cases h
    · rename_i k e hs
      have hb := stepOf_bd hs
      cases ht : costSum rs width most e t with
      | none => rw [ht] at h; cases h
      | some c' =>
        rw [ht] at h
        simp at h
        have ih := costSum_len t e c' ht (by omega) (by omega)
        simp only [List.length_cons]
        omega
theorem costSum_step {rs : List Item} {width most sm k : Int} {s e : St} {to : Int} {t : List Int} {X : Option Int} (hX : X = (costSum rs width most s (to :: t)).map (sm + ·)) (hs : stepOf rs width most s to = some (k, e)) : X = (costSum rs width most e t).map (sm + k + ·) := by
  rw [hX, costSum, hs]
  dsimp only
  cases costSum rs width most e t <;> simp; omega
theorem costSum_stop {rs : List Item} {width most sm : Int} {s : St} {to : Int} {t : List Int} {X : Option Int} (hX : X = (costSum rs width most s (to :: t)).map (sm + ·)) (hs : stepOf rs width most s to = none) : X = none := by
  rw [hX, costSum, hs]; rfl
theorem costSum_end {rs : List Item} {width most sm : Int} {s : St} {X : Option Int} (hX : X = (costSum rs width most s []).map (sm + ·)) : X = some sm := by
  rw [hX, costSum]; simp
/-- The look of what was before does not count for the first line. -/
theorem stepOf_first {rs : List Item} {width most : Int} {m m' : Bool} {l l' : Int} {to : Int} : stepOf rs width most ⟨-1, m, l⟩ to = stepOf rs width most ⟨-1, m', l'⟩ to := by
  simp [stepOf, exMark, exLooks]
theorem costSum_first {rs : List Item} {width most : Int} {m m' : Bool} {l l' : Int} (bs : List Int) : costSum rs width most ⟨-1, m, l⟩ bs = costSum rs width most ⟨-1, m', l'⟩ bs := by
  cases bs with
  | nil => rfl
  | cons to t => rw [costSum, costSum, stepOf_first]

set_option maxHeartbeats 1600000 in
theorem c_l8Between (A : Option Addr) (n c : Nat) (rs : List Item) (after : Int) (m : Nat) (before looks : Int) (w : World) (hR : ItemsAt w A n c rs) (ha : -1 ≤ after ∧ after < n) (hm : m < n) (hb : 0 ≤ before ∧ before ≤ 3) (hl : 0 ≤ looks ∧ looks ≤ 3) :
    Calls Try.prog 44 #[.slice A n c, .int .i64 after, .int .i64 m, .int .i64 before, .int .i64 looks] w fun e w' => e = .returned (.int .i64 (exMark ⟨after, decide (0 ≤ after) && (itAt rs after.toNat).mark, before⟩ (itAt rs m).mark + exLooks ⟨after, decide (0 ≤ after) && (itAt rs after.toNat).mark, before⟩ looks)) ∧ Below w.heap.size w w' := by
  have hbd := hR.bd
  obtain ⟨hb0, hb1⟩ := hb
  obtain ⟨hl0, hl1⟩ := hl
  obtain ⟨b, off, r, rfl, hbl, hr, h0, h1, h2, h3, h4, h5, h6⟩ := hR.at_ hm
  have hit := itAt_of hr
  rw [hit]
  clear h0 h1 h2 h3 h4 h5 hr hit
  by_cases hat : 0 ≤ after
  · obtain ⟨j, rfl⟩ := Int.eq_ofNat_of_zero_le hat
    obtain ⟨b', off', q, e, hbl', hq, g0, g1, g2, g3, g4, g5, g6⟩ := hR.at_ (k := j) (by omega)
    cases e
    have hiq := itAt_of hq
    rw [Int.toNat_natCast, hiq]
    clear g0 g1 g2 g3 g4 g5 hq hiq
    obtain ⟨K, HK⟩ : ∃ K, Hid (K = exMark ⟨(j : Int), decide (0 ≤ (j : Int)) && q.mark, before⟩ r.mark + exLooks ⟨(j : Int), decide (0 ≤ (j : Int)) && q.mark, before⟩ looks) := ⟨_, rfl⟩
    rw [← unhide HK]
    obtain ⟨qm, hqm⟩ : ∃ x, q.mark = x := ⟨_, rfl⟩
    obtain ⟨rm, hrm⟩ : ∃ x, r.mark = x := ⟨_, rfl⟩
    rw [hqm] at g6 HK
    rw [hrm] at h6 HK
    clear hqm hrm
    have hcase : 1 < max (before - looks) (looks - before) ∨ ¬ 1 < max (before - looks) (looks - before) := by omega
    rcases hcase with hd | hd <;> cases qm <;> cases rm
    all_goals
      have hK := unhide HK
      have hd' : (1 < before - looks ∨ before - looks < -1) ↔ (1 < max (before - looks) (looks - before)) := by omega
      simp [exMark, exLooks, hd', hd] at hK
      have HK2 := hide hK
      clear HK hK hd'
      go_enter Try.func44, Try.ntmps44
      go_wp2
      all_goals
        go_ret
        exact ⟨by rw [unhide HK2] <;> rfl, Below.refl _ _⟩
  · obtain rfl : after = -1 := by omega
    have e1 : ∀ mk rm l, exMark ⟨-1, mk, before⟩ rm + exLooks ⟨-1, mk, before⟩ l = 0 := by simp [exMark, exLooks]
    rw [e1]
    go_enter Try.func44, Try.ntmps44
    go_wp2
    go_ret
    exact ⟨rfl, Below.refl _ _⟩
end Go.Proofs.Ytadcbigioldejaa
