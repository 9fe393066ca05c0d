/- Slices of Placed: contracts of the small functions of the laws that copy, compare and mark them. No condition. -/
import Derived.Test.YtadcbigioldejaaInts
import Derived.Deep.RegionWith
namespace Go.Proofs.Ytadcbigioldejaa
open Go.RowKit
set_option linter.unusedVariables false

structure Placed where
  at_ : Int
  place : Int
  deriving DecidableEq
def Placed.cells (r : Placed) : List Value := [.int .i64 r.at_, .int .i64 r.place]
theorem Placed.cells_len (r : Placed) : r.cells.length = 2 := rfl
def PlacedAt (w : World) (A : Option Addr) (n c : Nat) (rs : List Placed) : Prop := Sl w A n c 2 (rs.flatMap Placed.cells)
section placed
variable {w w' : World} {A : Option Addr} {n c k : Nat} {rs : List Placed}
theorem PlacedAt.len (h : PlacedAt w A n c rs) : rs.length = n := by
  have := Rd.len h.1; rw [flatMap_len Placed.cells_len] at this; omega
theorem PlacedAt.next (h : PlacedAt w A n c rs) (hb : Below w.heap.size w w') : PlacedAt w' A n c rs := Sl.next h hb
theorem PlacedAt.below {B : Nat} (h : PlacedAt w A n c rs) (hB : w.heap.size ≤ B) (hb : Below B w w') : PlacedAt w' A n c rs := Sl.below h hB hb
theorem PlacedAt.bd (h : PlacedAt w A n c rs) : n ≤ c ∧ c ≤ 9223372036854775807 := h.2
theorem PlacedAt.at_ (h : PlacedAt w A n c rs) (hk : k < n) : ∃ b off r, A = some ⟨b, off, none⟩ ∧ b < w.heap.size ∧ rs[k]? = some r ∧ w.cell? ⟨b, off + k * 2, none⟩ = some (.int .i64 r.at_) ∧ w.cell? ⟨b, off + k * 2 + 1, none⟩ = some (.int .i64 r.place) := by
  obtain ⟨b, off, e, hl, hc⟩ := Rd.cells h.1 (by omega)
  have hlen := h.len
  have hx : rs[k]? = some (rs[k]'(by omega)) := List.getElem?_eq_getElem (by omega)
  have hg := fun j hj => flatMap_get Placed.cells_len rs k j _ hx hj
  refine ⟨b, off, _, e, hl, hx, ?_, ?_⟩
  · exact hc (k * 2 + 0) _ (hg 0 (by omega))
  · exact hc (k * 2 + 1) _ (hg 1 (by omega))
end placed
theorem infoPlaced : (Try.prog.info? 73).map (fun i => (i.zero, i.size, i.bytes)) = some (some (.agg #[.int .i64 0, .int .i64 0]), 2, 16) := by kernel_rfl
theorem flat_snoc_placed (rs : List Placed) (r : Placed) : (rs ++ [r]).flatMap Placed.cells = rs.flatMap Placed.cells ++ [.int .i64 r.at_, .int .i64 r.place] := by simp [Placed.cells]
theorem cells_new_placed (w : World) (t : TypeId) (a0 a1 : Value) : ∀ j u, [a0, a1][j]? = some u → (w.alloc (.cells #[a0, a1] t)).cell? ((⟨w.heap.size, 0, none⟩ : Addr).add j) = some u := by
  intro j u hj
  rw [add_lit', Nat.zero_add, (Blk.new w t #[a0, a1]).cell j]
  simpa using hj
theorem one_placed (r : Placed) : ∀ u ∈ ([.int .i64 r.at_, .int .i64 r.place] : List Value), u.oneCell' = true := by
  intro u hu; simp at hu; rcases hu with rfl | rfl <;> rfl
/-- A slice that the call itself made, with its elements. -/
def OwnP (w : World) (B : Nat) (A : Option Addr) (c : Nat) (rs : List Placed) : Prop := w.ownsRow B 73 2 (.slice A rs.length c) rs.length (rs.flatMap Placed.cells)
section ownplaced
variable {w w' : World} {A : Option Addr} {B c : Nat} {rs : List Placed}
theorem OwnP.at_ (h : OwnP w B A c rs) : PlacedAt w A rs.length c rs := Sl.of_own h
theorem OwnP.next (h : OwnP w B A c rs) (hb : Below w.heap.size w w') : OwnP w' B A c rs := own_next h hb
theorem OwnP.of {v : Value} (h : w.ownsRow B 73 2 v rs.length (rs.flatMap Placed.cells)) : ∃ A c, v = .slice A rs.length c ∧ OwnP w B A c rs := by
  obtain ⟨A, c, rfl, _, _, _, _, h'⟩ := own_form h
  exact ⟨A, c, rfl, h'⟩
end ownplaced
theorem take_set_placed {ys : List Value} {j : Nat} (hj : j + 1 < ys.length) (a0 a1 : Value) : ((ys.set j a0).set (j + 1) a1).take (j + 2) = ys.take j ++ [a0, a1] := by
  rw [show j + 2 = j + 1 + 1 from rfl, take_set (by simp; omega), take_set (by omega)]
  simp
theorem flat_take_snoc_placed {rs : List Placed} {k : Nat} {r : Placed} (h : rs[k]? = some r) : (rs.take (k + 1)).flatMap Placed.cells = (rs.take k).flatMap Placed.cells ++ [.int .i64 r.at_, .int .i64 r.place] := by
  rw [take_snoc' h, flat_snoc_placed]




set_option maxHeartbeats 400000 in
theorem c_eqPlaced_same (r : Placed) (w : World) :
    Calls Try.prog 51 #[.agg #[.int .i64 r.at_, .int .i64 r.place], .agg #[.int .i64 r.at_, .int .i64 r.place]] w fun e w' => e = .returned (.bool true) ∧ Below w.heap.size w w' := by
  have e0 : (r.at_ != r.at_) = false := by simp
  have e1 : (r.place != r.place) = false := by simp
  go_enter Try.func51, Try.ntmps51
  go_wp2
  go_ret
  exact ⟨rfl, bmk (bof _ _) _⟩

set_option maxHeartbeats 800000 in
theorem c_eqPlacedS_same (A A' : Option Addr) (n n' c c' : Nat) (xs : List Placed) (w : World) (h1 : PlacedAt w A n c xs) (h2 : PlacedAt w A' n' c' xs) :
    Calls Try.prog 27 #[.slice A n c, .slice A' n' c'] w fun e w' => e = .returned (.bool true) ∧ Below w.heap.size w w' := by
  obtain rfl : n = n' := by rw [← h1.len, ← h2.len]
  have hbd := h1.bd
  have hbd2 := h2.bd
  go_enter Try.func27, Try.ntmps27
  go_wp2
  go_loopw [5] (fun i wr => ∃ k : Nat, k ≤ n ∧ i = .int .i64 k ∧ Below w.heap.size w wr) (fun i _ => n - (intOf i).toNat)
  case atStart => exact ⟨0, Nat.zero_le _, rfl, Below.refl _ _⟩
  case round =>
    obtain ⟨k, hk, rfl, hbel⟩ := hrel
    by_cases hlt : k < n
    · obtain ⟨b, off, x, rfl, hb, hx, p0, p1⟩ := (h1.next hbel).at_ hlt
      obtain ⟨b', off', y, rfl, hb', hy, q0, q1⟩ := (h2.next hbel).at_ hlt
      rw [hx] at hy
      injection hy with hy
      subst hy
      clear hx
      go_wp2
      go_region_with (go_at_call 51; refine (c_eqPlaced_same x _).mono ?_; rintro e w2 ⟨rfl, hb2⟩)
      all_goals
        go_wp2
        go_roundw
        case rel => exact ⟨k + 1, by omega, by go_num, bnext hbel.drew (by assumption)⟩
        case measure => simp [intOf]; omega
    · go_wp2
      go_ret
      exact ⟨rfl, hbel⟩

/-- The element that a mark leaves from the number q on. -/
def markPlaced (q : Int) : Placed := ⟨q, q + 1⟩
def marksPlaced (k : Int) (n : Nat) : List Placed := (List.range n).map fun (i : Nat) => markPlaced (k + 2 * (i : Int))
theorem marksPlaced_len (k : Int) (n : Nat) : (marksPlaced k n).length = n := by simp [marksPlaced]
theorem marksPlaced_get {k : Int} {n i : Nat} (h : i < n) : (marksPlaced k n)[i]? = some (markPlaced (k + 2 * (i : Int))) := by simp [marksPlaced, h]
theorem marksPlaced_snoc (k : Int) (n : Nat) : marksPlaced k (n + 1) = marksPlaced k n ++ [markPlaced (k + 2 * (n : Int))] := by simp [marksPlaced, List.range_succ]
theorem marks_atPlacedS {w : World} {B c n : Nat} {A : Option Addr} {k : Int} (h : OwnP w B A c (marksPlaced k n)) : PlacedAt w A n c (marksPlaced k n) := by
  have h' := h.at_; rwa [marksPlaced_len] at h'

set_option maxHeartbeats 800000 in
theorem c_markPlacedS (A : Option Addr) (c B : Nat) (rs : List Placed) (k0 : Int) (w : World) (h : OwnP w B A c rs) (h0 : 0 ≤ k0) (h1 : k0 ≤ 1000000000000) (hn : rs.length ≤ 1000000000000) :
    Calls Try.prog 28 #[.slice A rs.length c, .int .i64 k0] w fun e w' => e = .returned (.int .i64 (k0 + 2 * rs.length)) ∧ OwnP w' B A c (marksPlaced k0 rs.length) ∧ w.grownBy w' (Value.slice A rs.length c).ownBlock := by
  obtain ⟨n, hn'⟩ : ∃ n, rs.length = n := ⟨_, rfl⟩
  unfold OwnP at h
  rw [hn'] at h hn ⊢
  have hA : n = 0 ∨ ∃ g, A = some ⟨g, 0, none⟩ := by
    rcases h.2 with ⟨_, h0⟩ | ⟨g, _, _, hv, _⟩
    · exact .inl h0
    · injection hv with hA; exact .inr ⟨g, hA⟩
  rcases hA with rfl | ⟨g, rfl⟩
  · have hx : rs = [] := List.eq_nil_of_length_eq_zero hn'
    subst hx
    clear hn'
    go_enter Try.func28, Try.ntmps28
    go_wp2
    refine wp_loop_rounds 1 ?_
    rw [rounds_succ]
    go_wp2
    go_ret
    exact ⟨by simp, by unfold OwnP; exact h, ⟨rfl, rfl, rfl, Nat.le_refl _, fun _ _ _ => rfl⟩⟩
  · have hbd := (Sl.of_own h).bd
    clear hn'
    go_enter Try.func28, Try.ntmps28
    go_wp2
    go_loopw [1, 5] (fun q i wr => ∃ (k : Nat) (ys : List Value), k ≤ n ∧ i = .int .i64 k ∧ q = .int .i64 (k0 + 2 * k) ∧ ys.take (k * 2) = (marksPlaced k0 k).flatMap Placed.cells ∧ wr.ownsRow B 73 2 (.slice (some ⟨g, 0, none⟩) n c) n ys ∧ w.grownBy wr (some g)) (fun _ i _ => n - (intOf i).toNat)
    case atStart => exact ⟨0, _, Nat.zero_le _, rfl, by simp, by simp [marksPlaced], h, ⟨rfl, rfl, rfl, Nat.le_refl _, fun _ _ _ => rfl⟩⟩
    case round =>
      clear h
      obtain ⟨k, ys, hk, rfl, rfl, hys, hown, hg⟩ := hrel
      have hyl : ys.length = n * 2 := hown.1
      by_cases hlt : k < n
      · skip
        have y0 := hown.cellAt (k * 2) (by omega)
        have y1 := hown.cellAt (k * 2 + 1) (by omega)
        rw [List.getElem?_eq_getElem (by omega)] at y0 y1
        have f0 := hown.frozenAt (k * 2)
        have f1 := hown.frozenAt (k * 2 + 1)
        have hys2 := take_set_placed (ys := ys) (j := k * 2) (by omega) (.int .i64 (k0 + 2 * k)) (.int .i64 (k0 + 2 * k + 1))
        have hst := (hown.stored (k * 2) (.int .i64 (k0 + 2 * k))).1.stored (k * 2 + 1) (.int .i64 (k0 + 2 * k + 1))
        have hset : ∀ (wx : World) (j : Nat) (u : Value), w.grownBy wx (some g) → w.grownBy (wx.setCell ⟨g, j, none⟩ u) (some g) := fun wx j u hg =>
          ⟨hg.os, hg.tape, hg.output, by simpa [World.setCell] using hg.size, fun i hi hne => (Below.heap_setCell wx ⟨g, j, none⟩ _ i (fun e => hne (by rw [e]))).trans (hg.block i hi hne)⟩
        have hgl := hset _ (k * 2 + 1) (.int .i64 (k0 + 2 * k + 1)) (hset _ (k * 2) (.int .i64 (k0 + 2 * k)) (hg))
        have hmk : (marksPlaced k0 (k + 1)).flatMap Placed.cells = (marksPlaced k0 k).flatMap Placed.cells ++ [.int .i64 (k0 + 2 * k), .int .i64 (k0 + 2 * k + 1)] := by
          rw [marksPlaced_snoc, flat_snoc_placed]; simp [markPlaced]
        rw [hys, ← hmk, show k * 2 + 2 = (k + 1) * 2 from by omega] at hys2
        have H := hide hys2
        clear hys2 hys hmk hset
        go_wp2
        go_roundw
        case rel => exact ⟨k + 1, _, by omega, by go_num, by go_num, unhide H, hst.1, hgl⟩
        case measure => simp [intOf]; omega
      · obtain rfl : n = k := by omega
        have hm : ys = (marksPlaced k0 n).flatMap Placed.cells := by
          rw [List.take_of_length_le (by omega)] at hys; exact hys
        subst hm
        go_wp2
        go_ret
        refine ⟨rfl, ?_, hg⟩
        unfold OwnP
        rw [marksPlaced_len]
        exact hown

set_option maxHeartbeats 800000 in
theorem c_heldPlacedS (A : Option Addr) (c n : Nat) (k0 : Int) (w : World) (h : PlacedAt w A n c (marksPlaced k0 n)) (h0 : 0 ≤ k0) (h1 : k0 ≤ 1000000000000) (hn : n ≤ 1000000000000) :
    Calls Try.prog 29 #[.slice A n c, .int .i64 k0] w fun e w' => e = .returned (.int .i64 (k0 + 2 * n)) ∧ Below w.heap.size w w' := by
  go_enter Try.func29, Try.ntmps29
  go_wp2
  go_loopw [1, 5] (fun q i wr => ∃ (k : Nat), k ≤ n ∧ i = .int .i64 k ∧ q = .int .i64 (k0 + 2 * k) ∧ Below w.heap.size w wr) (fun _ i _ => n - (intOf i).toNat)
  case atStart => exact ⟨0, Nat.zero_le _, rfl, by simp, Below.refl _ _⟩
  case round =>
    obtain ⟨k, hk, rfl, rfl, hb⟩ := hrel
    by_cases hlt : k < n
    · obtain ⟨b, off, x, rfl, hbl, hx, q0, q1⟩ := (h.next hb).at_ hlt
      rw [marksPlaced_get hlt] at hx
      obtain rfl := Option.some.inj hx
      have p0 : wr.cell? ⟨b, off + k * 2, none⟩ = some (.int .i64 (k0 + 2 * k)) := by rw [q0]; simp [markPlaced]
      have p1 : wr.cell? ⟨b, off + k * 2 + 1, none⟩ = some (.int .i64 (k0 + 2 * k + 1)) := by rw [q1]; simp [markPlaced]
      clear q0 q1
      go_wp2
      go_roundw
      case rel => exact ⟨k + 1, by omega, by go_num, by go_num, hb⟩
      case measure => simp [intOf]; omega
    · obtain rfl : n = k := by omega
      go_wp2
      go_ret
      exact ⟨rfl, hb⟩
end Go.Proofs.Ytadcbigioldejaa
