/- Slices of Entry: contracts of the small functions of the laws that copy, compare and mark them. No condition. -/
import Derived.Test.YtdjilkohnhejiaaInts
import Derived.Deep.RegionWith
namespace Go.Proofs.Ytdjilkohnhejiaa
open Go.RowKit
set_option linter.unusedVariables false

structure Entry where
  col : Int
  many : Int
  width : Int
  deriving DecidableEq
def Entry.cells (r : Entry) : List Value := [.int .i64 r.col, .int .i64 r.many, .int .i64 r.width]
theorem Entry.cells_len (r : Entry) : r.cells.length = 3 := rfl
def EntriesAt (w : World) (A : Option Addr) (n c : Nat) (rs : List Entry) : Prop := Sl w A n c 3 (rs.flatMap Entry.cells)
section entries
variable {w w' : World} {A : Option Addr} {n c k : Nat} {rs : List Entry}
theorem EntriesAt.len (h : EntriesAt w A n c rs) : rs.length = n := by
  have := Rd.len h.1; rw [flatMap_len Entry.cells_len] at this; omega
theorem EntriesAt.next (h : EntriesAt w A n c rs) (hb : Below w.heap.size w w') : EntriesAt w' A n c rs := Sl.next h hb
theorem EntriesAt.below {B : Nat} (h : EntriesAt w A n c rs) (hB : w.heap.size ≤ B) (hb : Below B w w') : EntriesAt w' A n c rs := Sl.below h hB hb
theorem EntriesAt.bd (h : EntriesAt w A n c rs) : n ≤ c ∧ c ≤ 9223372036854775807 := h.2
theorem EntriesAt.at_ (h : EntriesAt w A n c rs) (hk : k < n) : ∃ b off r, A = some ⟨b, off, none⟩ ∧ b < w.heap.size ∧ rs[k]? = some r ∧ w.cell? ⟨b, off + k * 3, none⟩ = some (.int .i64 r.col) ∧ w.cell? ⟨b, off + k * 3 + 1, none⟩ = some (.int .i64 r.many) ∧ w.cell? ⟨b, off + k * 3 + 2, none⟩ = some (.int .i64 r.width) := by
  obtain ⟨b, off, e, hl, hc⟩ := Rd.cells h.1 (by omega)
  have hlen := h.len
  have hx : rs[k]? = some (rs[k]'(by omega)) := List.getElem?_eq_getElem (by omega)
  have hg := fun j hj => flatMap_get Entry.cells_len rs k j _ hx hj
  refine ⟨b, off, _, e, hl, hx, ?_, ?_, ?_⟩
  · exact hc (k * 3 + 0) _ (hg 0 (by omega))
  · exact hc (k * 3 + 1) _ (hg 1 (by omega))
  · exact hc (k * 3 + 2) _ (hg 2 (by omega))
end entries
theorem infoEntry : (Try.prog.info? 59).map (fun i => (i.zero, i.size, i.bytes)) = some (some (.agg #[.int .i64 0, .int .i64 0, .int .i64 0]), 3, 24) := by kernel_rfl
theorem flat_snoc_entries (rs : List Entry) (r : Entry) : (rs ++ [r]).flatMap Entry.cells = rs.flatMap Entry.cells ++ [.int .i64 r.col, .int .i64 r.many, .int .i64 r.width] := by simp [Entry.cells]
theorem cells_new_entries (w : World) (t : TypeId) (a0 a1 a2 : Value) : ∀ j u, [a0, a1, a2][j]? = some u → (w.alloc (.cells #[a0, a1, a2] t)).cell? ((⟨w.heap.size, 0, none⟩ : Addr).add j) = some u := by
  intro j u hj
  rw [add_lit', Nat.zero_add, (Blk.new w t #[a0, a1, a2]).cell j]
  simpa using hj
theorem one_entries (r : Entry) : ∀ u ∈ ([.int .i64 r.col, .int .i64 r.many, .int .i64 r.width] : List Value), u.oneCell' = true := by
  intro u hu; simp at hu; rcases hu with rfl | rfl | rfl <;> rfl
/-- A slice that the call itself made, with its elements. -/
def OwnE (w : World) (B : Nat) (A : Option Addr) (c : Nat) (rs : List Entry) : Prop := w.ownsRow B 59 3 (.slice A rs.length c) rs.length (rs.flatMap Entry.cells)
section ownentries
variable {w w' : World} {A : Option Addr} {B c : Nat} {rs : List Entry}
theorem OwnE.at_ (h : OwnE w B A c rs) : EntriesAt w A rs.length c rs := Sl.of_own h
theorem OwnE.next (h : OwnE w B A c rs) (hb : Below w.heap.size w w') : OwnE w' B A c rs := own_next h hb
theorem OwnE.of {v : Value} (h : w.ownsRow B 59 3 v rs.length (rs.flatMap Entry.cells)) : ∃ A c, v = .slice A rs.length c ∧ OwnE w B A c rs := by
  obtain ⟨A, c, rfl, _, _, _, _, h'⟩ := own_form h
  exact ⟨A, c, rfl, h'⟩
end ownentries
theorem take_set_entries {ys : List Value} {j : Nat} (hj : j + 2 < ys.length) (a0 a1 a2 : Value) : (((ys.set j a0).set (j + 1) a1).set (j + 2) a2).take (j + 3) = ys.take j ++ [a0, a1, a2] := by
  rw [show j + 3 = j + 2 + 1 from rfl, take_set (by simp; omega), show j + 2 = j + 1 + 1 from rfl, take_set (by simp; omega), take_set (by omega)]
  simp
theorem flat_take_snoc_entries {rs : List Entry} {k : Nat} {r : Entry} (h : rs[k]? = some r) : (rs.take (k + 1)).flatMap Entry.cells = (rs.take k).flatMap Entry.cells ++ [.int .i64 r.col, .int .i64 r.many, .int .i64 r.width] := by
  rw [take_snoc' h, flat_snoc_entries]

set_option maxHeartbeats 400000 in
theorem c_toEntry (r : Entry) (w : World) :
    Calls Try.prog 57 #[.agg #[.int .i64 r.col, .int .i64 r.many, .int .i64 r.width]] w fun e w' => e = .returned (.agg #[.int .i64 r.col, .int .i64 r.many, .int .i64 r.width]) ∧ Below w.heap.size w w' := by
  go_enter Try.func57, Try.ntmps57
  go_wp2
  refine bodyPost_ret (v := .agg #[.int .i64 r.col, .int .i64 r.many, .int .i64 r.width]) (by simp [results, Try.results57, go_sem]) rfl ⟨rfl, ?_⟩
  exact bmk (bmk (bof _ _) _) _

set_option maxHeartbeats 400000 in
theorem c_szEntryS_big (A : Option Addr) (n c : Nat) (l : Int) (w : World) (hn : n ≤ 9223372036854775807) (hl : 0 ≤ l ∧ l ≤ 1048576) (h : l < n) :
    Calls Try.prog 35 #[.slice A n c, .int .i64 l] w fun e w' => e = .returned (.int .i64 (-1)) ∧ w = w' := by
  go_enter Try.func35, Try.ntmps35
  go_wp2
  go_ret
  exact ⟨rfl, rfl⟩
set_option maxHeartbeats 400000 in
theorem c_szEntryS_ok (A : Option Addr) (n c : Nat) (l : Int) (w : World) (hl : l ≤ 1048576) (h : (n : Int) ≤ l) :
    Calls Try.prog 35 #[.slice A n c, .int .i64 l] w fun e w' => e = .returned (.int .i64 (l - n)) ∧ w = w' := by
  go_enter Try.func35, Try.ntmps35
  go_wp2
  go_ret
  exact ⟨rfl, rfl⟩

set_option maxHeartbeats 400000 in
theorem c_toEntryS (A : Option Addr) (n c : Nat) (rs : List Entry) (w : World) (h : EntriesAt w A n c rs) (hn : n ≤ 16777216) :
    Calls Try.prog 37 #[.slice A n c] w fun e w' => ∃ A' c', e = .returned (.slice A' n c') ∧ OwnE w' w.heap.size A' c' rs ∧ Below w.heap.size w w' := by
  obtain ⟨i0, hi, hz0, hz1, hz2⟩ := info_parts infoEntry
  have hbd := h.bd
  have hlen := h.len
  go_enter Try.func37, Try.ntmps37
  go_wp2_with (at_make; refine wpList_make_full _ rfl _ _ 52 rfl w.heap.size 59 i0 (.agg #[.int .i64 0, .int .i64 0, .int .i64 0]) 3 Try.underlying52 hi hz0 hz1 .i64 .i64 n n n rfl rfl rfl rfl ?b2 ?b3 (Nat.le_refl _) ?_)
  case b2 => rw [hz2]; omega
  case b3 => unfold maxLen; omega
  intro w1 hown hg
  have hb1 : Below w.heap.size w w1 := ⟨hg.os, hg.tape, hg.output, hg.size, fun k hk => hg.block k hk (by simp)⟩
  go_wp2
  go_loopw [4] (fun i wr => ∃ (k : Nat) (ys : List Value), k ≤ n ∧ i = .int .i64 k ∧ ys.take (k * 3) = (rs.take k).flatMap Entry.cells ∧ wr.ownsRow w.heap.size 59 3 (.slice (some ⟨w.heap.size, 0, none⟩) n n) n ys ∧ Below w.heap.size w wr) (fun i _ => n - (intOf i).toNat)
  case atStart => exact ⟨0, _, Nat.zero_le _, rfl, by simp, hown, hb1⟩
  case round =>
    clear hown hg hb1
    obtain ⟨k, ys, hk, rfl, hys, hown, hb⟩ := hrel
    have hyl : ys.length = n * 3 := hown.1
    by_cases hlt : k < n
    · obtain ⟨b, off, r, rfl, hbl, hr, h0, h1, h2⟩ := (h.next hb).at_ hlt
      have HYS := hide hys
      clear hys
      go_wp2_with fail
      refine (c_toEntry r _).mono ?_
      rintro e w2 ⟨rfl, hb2⟩
      have hown := own_next hown hb2
      have hb := bnext hb hb2
      clear h0 h1 h2 hb2
      have y0 := hown.cellAt (k * 3) (by omega)
      have y1 := hown.cellAt (k * 3 + 1) (by omega)
      have y2 := hown.cellAt (k * 3 + 2) (by omega)
      rw [List.getElem?_eq_getElem (by omega)] at y0 y1 y2
      have f0 := hown.frozenAt (k * 3)
      have f1 := hown.frozenAt (k * 3 + 1)
      have f2 := hown.frozenAt (k * 3 + 2)
      have hst := ((hown.stored (k * 3) (.int .i64 r.col)).1.stored (k * 3 + 1) (.int .i64 r.many)).1.stored (k * 3 + 2) (.int .i64 r.width)
      have hb3 := (((hb).setCell (p := ⟨w.heap.size, k * 3, none⟩) (Nat.le_refl _) (.int .i64 r.col)).setCell (p := ⟨w.heap.size, k * 3 + 1, none⟩) (Nat.le_refl _) (.int .i64 r.many)).setCell (p := ⟨w.heap.size, k * 3 + 2, none⟩) (Nat.le_refl _) (.int .i64 r.width)
      have hys2 := take_set_entries (ys := ys) (j := k * 3) (by omega) (.int .i64 r.col) (.int .i64 r.many) (.int .i64 r.width)
      rw [unhide HYS, ← flat_take_snoc_entries hr, show k * 3 + 3 = (k + 1) * 3 from by omega] at hys2
      have H := hide hys2
      have HR := hide hr
      clear hys2 hr hown hb
      go_wp2
      go_roundw
      case rel => exact ⟨k + 1, _, by omega, by go_num, unhide H, hst.1, hb3⟩
      case measure => simp [intOf]; omega
    · obtain rfl : n = k := by omega
      have hxs : ys = rs.flatMap Entry.cells := by
        rw [List.take_of_length_le (by omega), List.take_of_length_le (by omega)] at hys; exact hys
      subst hxs
      subst hlen
      go_wp2
      go_ret
      exact ⟨_, _, rfl, hown, hb⟩

set_option maxHeartbeats 400000 in
theorem c_eqEntry_same (r : Entry) (w : World) :
    Calls Try.prog 58 #[.agg #[.int .i64 r.col, .int .i64 r.many, .int .i64 r.width], .agg #[.int .i64 r.col, .int .i64 r.many, .int .i64 r.width]] w fun e w' => e = .returned (.bool true) ∧ Below w.heap.size w w' := by
  have e0 : (r.col != r.col) = false := by simp
  have e1 : (r.many != r.many) = false := by simp
  have e2 : (r.width != r.width) = false := by simp
  go_enter Try.func58, Try.ntmps58
  go_wp2
  go_ret
  exact ⟨rfl, bmk (bof _ _) _⟩

set_option maxHeartbeats 800000 in
theorem c_eqEntryS_same (A A' : Option Addr) (n n' c c' : Nat) (xs : List Entry) (w : World) (h1 : EntriesAt w A n c xs) (h2 : EntriesAt w A' n' c' xs) :
    Calls Try.prog 39 #[.slice A n c, .slice A' n' c'] w fun e w' => e = .returned (.bool true) ∧ Below w.heap.size w w' := by
  obtain rfl : n = n' := by rw [← h1.len, ← h2.len]
  have hbd := h1.bd
  have hbd2 := h2.bd
  go_enter Try.func39, Try.ntmps39
  go_wp2
  go_loopw [5] (fun i wr => ∃ k : Nat, k ≤ n ∧ i = .int .i64 k ∧ Below w.heap.size w wr) (fun i _ => n - (intOf i).toNat)
  case atStart => exact ⟨0, Nat.zero_le _, rfl, Below.refl _ _⟩
  case round =>
    obtain ⟨k, hk, rfl, hbel⟩ := hrel
    by_cases hlt : k < n
    · obtain ⟨b, off, x, rfl, hb, hx, p0, p1, p2⟩ := (h1.next hbel).at_ hlt
      obtain ⟨b', off', y, rfl, hb', hy, q0, q1, q2⟩ := (h2.next hbel).at_ hlt
      rw [hx] at hy
      injection hy with hy
      subst hy
      clear hx
      go_wp2
      go_region_with (go_at_call 58; refine (c_eqEntry_same x _).mono ?_; rintro e w2 ⟨rfl, hb2⟩)
      all_goals
        go_wp2
        go_roundw
        case rel => exact ⟨k + 1, by omega, by go_num, bnext hbel.drew (by assumption)⟩
        case measure => simp [intOf]; omega
    · go_wp2
      go_ret
      exact ⟨rfl, hbel⟩

/-- The element that a mark leaves from the number q on. -/
def markEntry (q : Int) : Entry := ⟨q, q + 1, q + 2⟩
def marksEntry (k : Int) (n : Nat) : List Entry := (List.range n).map fun (i : Nat) => markEntry (k + 3 * (i : Int))
theorem marksEntry_len (k : Int) (n : Nat) : (marksEntry k n).length = n := by simp [marksEntry]
theorem marksEntry_get {k : Int} {n i : Nat} (h : i < n) : (marksEntry k n)[i]? = some (markEntry (k + 3 * (i : Int))) := by simp [marksEntry, h]
theorem marksEntry_snoc (k : Int) (n : Nat) : marksEntry k (n + 1) = marksEntry k n ++ [markEntry (k + 3 * (n : Int))] := by simp [marksEntry, List.range_succ]
theorem marks_atEntryS {w : World} {B c n : Nat} {A : Option Addr} {k : Int} (h : OwnE w B A c (marksEntry k n)) : EntriesAt w A n c (marksEntry k n) := by
  have h' := h.at_; rwa [marksEntry_len] at h'

set_option maxHeartbeats 800000 in
theorem c_markEntryS (A : Option Addr) (c B : Nat) (rs : List Entry) (k0 : Int) (w : World) (h : OwnE w B A c rs) (h0 : 0 ≤ k0) (h1 : k0 ≤ 1000000000000) (hn : rs.length ≤ 1000000000000) :
    Calls Try.prog 43 #[.slice A rs.length c, .int .i64 k0] w fun e w' => e = .returned (.int .i64 (k0 + 3 * rs.length)) ∧ OwnE w' B A c (marksEntry k0 rs.length) ∧ w.grownBy w' (Value.slice A rs.length c).ownBlock := by
  obtain ⟨n, hn'⟩ : ∃ n, rs.length = n := ⟨_, rfl⟩
  unfold OwnE at h
  rw [hn'] at h hn ⊢
  have hA : n = 0 ∨ ∃ g, A = some ⟨g, 0, none⟩ := by
    rcases h.2 with ⟨_, h0⟩ | ⟨g, _, _, hv, _⟩
    · exact .inl h0
    · injection hv with hA; exact .inr ⟨g, hA⟩
  rcases hA with rfl | ⟨g, rfl⟩
  · have hx : rs = [] := List.eq_nil_of_length_eq_zero hn'
    subst hx
    clear hn'
    go_enter Try.func43, Try.ntmps43
    go_wp2
    refine wp_loop_rounds 1 ?_
    rw [rounds_succ]
    go_wp2
    go_ret
    exact ⟨by simp, by unfold OwnE; exact h, ⟨rfl, rfl, rfl, Nat.le_refl _, fun _ _ _ => rfl⟩⟩
  · have hbd := (Sl.of_own h).bd
    clear hn'
    go_enter Try.func43, Try.ntmps43
    go_wp2
    go_loopw [1, 5] (fun q i wr => ∃ (k : Nat) (ys : List Value), k ≤ n ∧ i = .int .i64 k ∧ q = .int .i64 (k0 + 3 * k) ∧ ys.take (k * 3) = (marksEntry k0 k).flatMap Entry.cells ∧ wr.ownsRow B 59 3 (.slice (some ⟨g, 0, none⟩) n c) n ys ∧ w.grownBy wr (some g)) (fun _ i _ => n - (intOf i).toNat)
    case atStart => exact ⟨0, _, Nat.zero_le _, rfl, by simp, by simp [marksEntry], h, ⟨rfl, rfl, rfl, Nat.le_refl _, fun _ _ _ => rfl⟩⟩
    case round =>
      clear h
      obtain ⟨k, ys, hk, rfl, rfl, hys, hown, hg⟩ := hrel
      have hyl : ys.length = n * 3 := hown.1
      by_cases hlt : k < n
      · skip
        have y0 := hown.cellAt (k * 3) (by omega)
        have y1 := hown.cellAt (k * 3 + 1) (by omega)
        have y2 := hown.cellAt (k * 3 + 2) (by omega)
        rw [List.getElem?_eq_getElem (by omega)] at y0 y1 y2
        have f0 := hown.frozenAt (k * 3)
        have f1 := hown.frozenAt (k * 3 + 1)
        have f2 := hown.frozenAt (k * 3 + 2)
        have hys2 := take_set_entries (ys := ys) (j := k * 3) (by omega) (.int .i64 (k0 + 3 * k)) (.int .i64 (k0 + 3 * k + 1)) (.int .i64 (k0 + 3 * k + 1 + 1))
        have hst := ((hown.stored (k * 3) (.int .i64 (k0 + 3 * k))).1.stored (k * 3 + 1) (.int .i64 (k0 + 3 * k + 1))).1.stored (k * 3 + 2) (.int .i64 (k0 + 3 * k + 1 + 1))
        have hset : ∀ (wx : World) (j : Nat) (u : Value), w.grownBy wx (some g) → w.grownBy (wx.setCell ⟨g, j, none⟩ u) (some g) := fun wx j u hg =>
          ⟨hg.os, hg.tape, hg.output, by simpa [World.setCell] using hg.size, fun i hi hne => (Below.heap_setCell wx ⟨g, j, none⟩ _ i (fun e => hne (by rw [e]))).trans (hg.block i hi hne)⟩
        have hgl := hset _ (k * 3 + 2) (.int .i64 (k0 + 3 * k + 1 + 1)) (hset _ (k * 3 + 1) (.int .i64 (k0 + 3 * k + 1)) (hset _ (k * 3) (.int .i64 (k0 + 3 * k)) (hg)))
        have hmk : (marksEntry k0 (k + 1)).flatMap Entry.cells = (marksEntry k0 k).flatMap Entry.cells ++ [.int .i64 (k0 + 3 * k), .int .i64 (k0 + 3 * k + 1), .int .i64 (k0 + 3 * k + 1 + 1)] := by
          rw [marksEntry_snoc, flat_snoc_entries]; simp [markEntry]; omega
        rw [hys, ← hmk, show k * 3 + 3 = (k + 1) * 3 from by omega] at hys2
        have H := hide hys2
        clear hys2 hys hmk hset
        go_wp2
        go_roundw
        case rel => exact ⟨k + 1, _, by omega, by go_num, by go_num, unhide H, hst.1, hgl⟩
        case measure => simp [intOf]; omega
      · obtain rfl : n = k := by omega
        have hm : ys = (marksEntry k0 n).flatMap Entry.cells := by
          rw [List.take_of_length_le (by omega)] at hys; exact hys
        subst hm
        go_wp2
        go_ret
        refine ⟨rfl, ?_, hg⟩
        unfold OwnE
        rw [marksEntry_len]
        exact hown

end Go.Proofs.Ytdjilkohnhejiaa
