/- The best pages: looking down and looking up come to the same. No condition. -/
import Derived.Test.YtpbccblenohhoaaPagesP
namespace Go.Proofs.Ytpbccblenohhoaa
open Go.RowKit
set_option linter.unusedVariables false

def cand (rs : List Row) (h : Int) (least : Nat → Int) (a z : Nat) : Option Int := if pCost rs h a z < 0 ∨ least z < 0 then none else some (pCost rs h a z + least z)
theorem cand_nonneg {rs : List Row} {h : Int} {least : Nat → Int} {a z : Nat} {c : Int} (e : cand rs h least a z = some c) : 0 ≤ c := by
  unfold cand at e
  split at e
  · cases e
  · have := Option.some.inj e; omega
theorem stepDown_eq (rs : List Row) (h : Int) (least : Nat → Int) (a z : Nat) (b : Best) : stepDown rs h least a z b = match cand rs h least a z with | none => b | some c => better c z b := by
  unfold stepDown cand; split <;> rfl
def betterEq (c : Int) (z : Nat) (b : Best) : Best := if b.cost < 0 ∨ c ≤ b.cost then ⟨c, z⟩ else b
def stepUp (rs : List Row) (h : Int) (least : Nat → Int) (a z : Nat) (b : Best) : Best := match cand rs h least a z with | none => b | some c => betterEq c z b
def lookUp (rs : List Row) (h : Int) (least : Nat → Int) (a : Nat) : Nat → Best
  | 0 => ⟨-1, 0⟩
  | j + 1 => stepUp rs h least a (a + j + 1) (lookUp rs h least a j)
/-- The best of the candidates between lo and hi, the last of several. -/
structure IsBest (P : Nat → Option Int) (lo hi : Nat) (b : Best) : Prop where
  none_ : b.cost < 0 → (∀ z, lo < z → z ≤ hi → P z = none) ∧ b = ⟨-1, 0⟩
  some_ : 0 ≤ b.cost → lo < b.next ∧ b.next ≤ hi ∧ P b.next = some b.cost ∧ ∀ z c, lo < z → z ≤ hi → P z = some c → b.cost ≤ c ∧ (c = b.cost → z ≤ b.next)
theorem IsBest.unique {P : Nat → Option Int} {lo hi : Nat} {b b' : Best} (h : IsBest P lo hi b) (h' : IsBest P lo hi b') : b = b' := by
  rcases Int.lt_or_le b.cost 0 with h0 | h0
  · obtain ⟨h1, e⟩ := h.none_ h0
    rcases Int.lt_or_le b'.cost 0 with k0 | k0
    · rw [e, (h'.none_ k0).2]
    · obtain ⟨k1, k2, k3, _⟩ := h'.some_ k0
      rw [h1 _ k1 k2] at k3; cases k3
  · obtain ⟨h1, h2, h3, h4⟩ := h.some_ h0
    rcases Int.lt_or_le b'.cost 0 with k0 | k0
    · rw [(h'.none_ k0).1 _ h1 h2] at h3; cases h3
    · obtain ⟨k1, k2, k3, k4⟩ := h'.some_ k0
      have a1 := h4 _ _ k1 k2 k3
      have a2 := k4 _ _ h1 h2 h3
      obtain ⟨c, z⟩ := b
      obtain ⟨c', z'⟩ := b'
      dsimp only at *
      obtain rfl : c = c' := by omega
      have b1 := a1.2 rfl
      have b2 := a2.2 rfl
      obtain rfl : z = z' := by omega
      rfl
theorem lookDown_best (rs : List Row) (h : Int) (least : Nat → Int) (a n : Nat) : ∀ j, j ≤ n → IsBest (cand rs h least a) (n - j) n (lookDown rs h least a n j)
  | 0, _ => ⟨fun _ => ⟨fun z h1 h2 => by omega, rfl⟩, fun h => by simp [lookDown] at h⟩
  | j + 1, hj => by
    have ih := lookDown_best rs h least a n j (by omega)
    rw [lookDown, stepDown_eq]
    cases hc : cand rs h least a (n - j) with
    | none =>
      dsimp only
      refine ⟨fun h0 => ⟨fun z h1 h2 => ?_, (ih.none_ h0).2⟩, fun h0 => ?_⟩
      · by_cases hz : z = n - j
        · rw [hz]; exact hc
        · exact (ih.none_ h0).1 z (by omega) h2
      · obtain ⟨k1, k2, k3, k4⟩ := ih.some_ h0
        refine ⟨by omega, k2, k3, fun z c h1 h2 h3 => ?_⟩
        by_cases hz : z = n - j
        · rw [hz, hc] at h3; cases h3
        · exact k4 z c (by omega) h2 h3
    | some c =>
      dsimp only
      have hc0 := cand_nonneg hc
      unfold better
      split
      · rename_i hb
        refine ⟨fun h0 => by dsimp only at h0; omega, fun _ => ⟨by dsimp only; omega, by dsimp only; omega, hc, fun z c' h1 h2 h3 => ?_⟩⟩
        dsimp only
        by_cases hz : z = n - j
        · rw [hz, hc] at h3
          have := Option.some.inj h3
          exact ⟨by omega, fun _ => by omega⟩
        · rcases Int.lt_or_le (lookDown rs h least a n j).cost 0 with h0 | h0
          · rw [(ih.none_ h0).1 z (by omega) h2] at h3; cases h3
          · have := (ih.some_ h0).2.2.2 z c' (by omega) h2 h3
            exact ⟨by omega, fun _ => by omega⟩
      · rename_i hb
        have h0 : 0 ≤ (lookDown rs h least a n j).cost := by omega
        obtain ⟨k1, k2, k3, k4⟩ := ih.some_ h0
        refine ⟨fun h0' => by omega, fun _ => ⟨by omega, k2, k3, fun z c' h1 h2 h3 => ?_⟩⟩
        by_cases hz : z = n - j
        · rw [hz, hc] at h3
          have := Option.some.inj h3
          exact ⟨by omega, fun _ => by omega⟩
        · exact k4 z c' (by omega) h2 h3
theorem lookUp_best (rs : List Row) (h : Int) (least : Nat → Int) (a : Nat) : ∀ j, IsBest (cand rs h least a) a (a + j) (lookUp rs h least a j)
  | 0 => ⟨fun _ => ⟨fun z h1 h2 => by omega, rfl⟩, fun h => by simp [lookUp] at h⟩
  | j + 1 => by
    have ih := lookUp_best rs h least a j
    rw [lookUp, stepUp]
    cases hc : cand rs h least a (a + j + 1) with
    | none =>
      dsimp only
      refine ⟨fun h0 => ⟨fun z h1 h2 => ?_, (ih.none_ h0).2⟩, fun h0 => ?_⟩
      · by_cases hz : z = a + j + 1
        · rw [hz]; exact hc
        · exact (ih.none_ h0).1 z h1 (by omega)
      · obtain ⟨k1, k2, k3, k4⟩ := ih.some_ h0
        refine ⟨k1, by omega, k3, fun z c h1 h2 h3 => ?_⟩
        by_cases hz : z = a + j + 1
        · rw [hz, hc] at h3; cases h3
        · exact k4 z c h1 (by omega) h3
    | some c =>
      dsimp only
      have hc0 := cand_nonneg hc
      unfold betterEq
      split
      · rename_i hb
        refine ⟨fun h0 => by dsimp only at h0; omega, fun _ => ⟨by dsimp only; omega, by dsimp only; omega, hc, fun z c' h1 h2 h3 => ?_⟩⟩
        dsimp only
        by_cases hz : z = a + j + 1
        · rw [hz, hc] at h3
          have := Option.some.inj h3
          exact ⟨by omega, fun _ => by omega⟩
        · rcases Int.lt_or_le (lookUp rs h least a j).cost 0 with h0 | h0
          · rw [(ih.none_ h0).1 z h1 (by omega)] at h3; cases h3
          · have := (ih.some_ h0).2.2.2 z c' h1 (by omega) h3
            exact ⟨by omega, fun _ => by omega⟩
      · rename_i hb
        have h0 : 0 ≤ (lookUp rs h least a j).cost := by omega
        obtain ⟨k1, k2, k3, k4⟩ := ih.some_ h0
        refine ⟨fun h0' => by omega, fun _ => ⟨k1, by omega, k3, fun z c' h1 h2 h3 => ?_⟩⟩
        by_cases hz : z = a + j + 1
        · rw [hz, hc] at h3
          have := Option.some.inj h3
          exact ⟨by omega, fun e => by omega⟩
        · exact k4 z c' h1 (by omega) h3
theorem bestAt_best (rs : List Row) (h : Int) (least : Nat → Int) {a : Nat} (ha : a ≤ rs.length) : IsBest (cand rs h least a) a rs.length (bestAt rs h least a) := by
  have := lookDown_best rs h least a rs.length (rs.length - a) (by omega)
  rwa [show rs.length - (rs.length - a) = a by omega] at this
theorem bestAt_up (rs : List Row) (h : Int) (least : Nat → Int) {a : Nat} (ha : a ≤ rs.length) : bestAt rs h least a = lookUp rs h least a (rs.length - a) := by
  refine (bestAt_best rs h least ha).unique ?_
  have := lookUp_best rs h least a (rs.length - a)
  rwa [show a + (rs.length - a) = rs.length by omega] at this
/-- Behind the last candidate nothing turns. -/
theorem lookUp_stop (rs : List Row) (h : Int) (least : Nat → Int) (a : Nat) (j : Nat) : ∀ d, (∀ z, a + j < z → z ≤ a + j + d → cand rs h least a z = none) → lookUp rs h least a (j + d) = lookUp rs h least a j
  | 0, _ => rfl
  | d + 1, hn => by
    rw [show j + (d + 1) = (j + d) + 1 by omega, lookUp, stepUp, hn (a + (j + d) + 1) (by omega) (by omega)]
    exact lookUp_stop rs h least a j d (fun z h1 h2 => hn z h1 (by omega))
theorem seg_snoc {rs : List Row} {a z : Nat} {r : Row} (haz : a ≤ z) (hr : rs[z]? = some r) : seg rs a (z + 1) = seg rs a z + r.h := by
  have h1 : (rs.drop a)[z - a]? = some r := by rw [List.getElem?_drop, show a + (z - a) = z by omega]; exact hr
  rw [seg, seg, show z + 1 - a = (z - a) + 1 by omega, sumH_snoc h1]
theorem seg_self (rs : List Row) (a : Nat) : seg rs a a = 0 := by simp [seg, sumH]
theorem seg_mono {rs : List Row} (hv : rs.all rowValid = true) {a z : Nat} (haz : a ≤ z) : ∀ d, z + d ≤ rs.length → seg rs a z ≤ seg rs a (z + d)
  | 0, _ => Int.le_refl _
  | d + 1, hd => by
    have ih := seg_mono hv haz d (by omega)
    have hr : rs[z + d]? = some (rs[z + d]'(by omega)) := List.getElem?_eq_getElem _
    have hrv := List.all_eq_true.1 hv _ (mem_of_get hr)
    simp only [rowValid, Bool.and_eq_true, inB_iff] at hrv
    rw [show z + (d + 1) = (z + d) + 1 by omega, seg_snoc (by omega) hr]
    omega
theorem cand_high {rs : List Row} {h : Int} {least : Nat → Int} {a z : Nat} (h1 : a < z) (h2 : z ≤ rs.length) (hs : h < seg rs a z) : cand rs h least a z = none := by
  have hf : pageOk rs h a z = false := by
    rw [pageOk_eq rs h h1 h2, Bool.and_eq_false_iff]
    left; simpa using hs
  have hp : pCost rs h a z = -1 := by rw [pCost, hf]; rfl
  rw [cand, hp, if_pos (Or.inl (by omega))]
end Go.Proofs.Ytpbccblenohhoaa
