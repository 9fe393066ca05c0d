/- Slices of rows: contracts of the small functions of the laws that copy, compare and mark them. No condition. -/
import Derived.Test.YtfflnkkhemaanaaRowsA
import Derived.Test.YtfflnkkhemaanaaInts
import Derived.Deep.RegionWith
namespace Go.Proofs.Ytfflnkkhemaanaa
open Go.RowKit
set_option linter.unusedVariables false

theorem infoRow : (Try.prog.info? 48).map (fun i => (i.zero, i.size, i.bytes)) = some (some (.agg #[.int .i64 0, .bool false, .int .i64 0, .int .i64 0]), 4, 32) := by kernel_rfl
theorem flat_snoc (rs : List Row) (r : Row) : (rs ++ [r]).flatMap Row.cells = rs.flatMap Row.cells ++ [.int .i64 r.h, .bool r.k, .int .i64 r.n, .int .i64 r.f] := by simp [Row.cells]
theorem cells4 {w : World} {b : Nat} {a0 a1 a2 a3 : Value} (h0 : w.cell? ⟨b, 0, none⟩ = some a0) (h1 : w.cell? ⟨b, 1, none⟩ = some a1) (h2 : w.cell? ⟨b, 2, none⟩ = some a2) (h3 : w.cell? ⟨b, 3, none⟩ = some a3) :
    ∀ j u, [a0, a1, a2, a3][j]? = some u → w.cell? ((⟨b, 0, none⟩ : Addr).add j) = some u := by
  intro j u hj
  rw [add_lit', Nat.zero_add]
  match j, hj with
  | 0, hj => simp at hj; subst hj; exact h0
  | 1, hj => simp at hj; subst hj; exact h1
  | 2, hj => simp at hj; subst hj; exact h2
  | 3, hj => simp at hj; subst hj; exact h3
theorem cells4_new (w : World) (t : TypeId) (a0 a1 a2 a3 : Value) : ∀ j u, [a0, a1, a2, a3][j]? = some u → (w.alloc (.cells #[a0, a1, a2, a3] t)).cell? ((⟨w.heap.size, 0, none⟩ : Addr).add j) = some u :=
  cells4 ((Blk.new w t #[a0, a1, a2, a3]).cell 0) ((Blk.new w t #[a0, a1, a2, a3]).cell 1) ((Blk.new w t #[a0, a1, a2, a3]).cell 2) ((Blk.new w t #[a0, a1, a2, a3]).cell 3)
theorem row_one (r : Row) : ∀ u ∈ [Value.int .i64 r.h, .bool r.k, .int .i64 r.n, .int .i64 r.f], u.oneCell' = true := by
  intro u hu; simp at hu; rcases hu with rfl | rfl | rfl | rfl <;> rfl
/-- A slice of rows that the call itself made, with its elements. -/
def OwnR (w : World) (B : Nat) (A : Option Addr) (c : Nat) (rs : List Row) : Prop := w.ownsRow B 48 4 (.slice A rs.length c) rs.length (rs.flatMap Row.cells)
section ownr
variable {w w' : World} {A : Option Addr} {B c : Nat} {rs : List Row}
theorem OwnR.at_ (h : OwnR w B A c rs) : RowsAt w A rs.length c rs := Sl.of_own h
theorem OwnR.next (h : OwnR w B A c rs) (hb : Below w.heap.size w w') : OwnR w' B A c rs := own_next h hb
theorem OwnR.of {v : Value} (h : w.ownsRow B 48 4 v rs.length (rs.flatMap Row.cells)) : ∃ A c, v = .slice A rs.length c ∧ OwnR w B A c rs := by
  obtain ⟨A, c, rfl, _, _, _, _, h'⟩ := own_form h
  exact ⟨A, c, rfl, h'⟩
end ownr
theorem take_set4 {ys : List Value} {j : Nat} (hj : j + 3 < ys.length) (a b c d : Value) :
    ((((ys.set j a).set (j + 1) b).set (j + 2) c).set (j + 3) d).take (j + 4) = ys.take j ++ [a, b, c, d] := by
  rw [show j + 4 = j + 3 + 1 from rfl, take_set (by simp; omega), show j + 3 = j + 2 + 1 from rfl, take_set (by simp; omega), show j + 2 = j + 1 + 1 from rfl, take_set (by simp; omega), take_set (by omega)]
  simp
theorem flat_take_snoc {rs : List Row} {k : Nat} {r : Row} (h : rs[k]? = some r) : (rs.take (k + 1)).flatMap Row.cells = (rs.take k).flatMap Row.cells ++ [.int .i64 r.h, .bool r.k, .int .i64 r.n, .int .i64 r.f] := by
  rw [take_snoc' h, flat_snoc]

set_option maxHeartbeats 400000 in
theorem c_toRow (r : Row) (w : World) :
    Calls Try.prog 47 #[.agg #[.int .i64 r.h, .bool r.k, .int .i64 r.n, .int .i64 r.f]] w fun e w' => e = .returned (.agg #[.int .i64 r.h, .bool r.k, .int .i64 r.n, .int .i64 r.f]) ∧ Below w.heap.size w w' := by
  go_enter Try.func47, Try.ntmps47
  go_wp2
  refine bodyPost_ret (v := .agg #[.int .i64 r.h, .bool r.k, .int .i64 r.n, .int .i64 r.f]) (by simp [results, Try.results47, go_sem]) rfl ⟨rfl, ?_⟩
  exact bmk (bmk (bof _ _) _) _

set_option maxHeartbeats 400000 in
theorem c_szRowS_big (A : Option Addr) (n c : Nat) (l : Int) (w : World) (hn : n ≤ 9223372036854775807) (hl : 0 ≤ l ∧ l ≤ 1048576) (h : l < n) :
    Calls Try.prog 15 #[.slice A n c, .int .i64 l] w fun e w' => e = .returned (.int .i64 (-1)) ∧ w = w' := by
  go_enter Try.func15, Try.ntmps15
  go_wp2
  go_ret
  exact ⟨rfl, rfl⟩
set_option maxHeartbeats 400000 in
theorem c_szRowS_ok (A : Option Addr) (n c : Nat) (l : Int) (w : World) (hl : l ≤ 1048576) (h : (n : Int) ≤ l) :
    Calls Try.prog 15 #[.slice A n c, .int .i64 l] w fun e w' => e = .returned (.int .i64 (l - n)) ∧ w = w' := by
  go_enter Try.func15, Try.ntmps15
  go_wp2
  go_ret
  exact ⟨rfl, rfl⟩

set_option maxHeartbeats 400000 in
theorem c_toRowS (A : Option Addr) (n c : Nat) (rs : List Row) (w : World) (h : RowsAt w A n c rs) (hn : n ≤ 16777216) :
    Calls Try.prog 17 #[.slice A n c] w fun e w' => ∃ A' c', e = .returned (.slice A' n c') ∧ OwnR w' w.heap.size A' c' rs ∧ Below w.heap.size w w' := by
  obtain ⟨i0, hi, hz0, hz1, hz2⟩ := info_parts infoRow
  have hbd := h.bd
  have hlen := h.len
  go_enter Try.func17, Try.ntmps17
  go_wp2_with (at_make; refine wpList_make_full _ rfl _ _ 23 rfl w.heap.size 48 i0 (.agg #[.int .i64 0, .bool false, .int .i64 0, .int .i64 0]) 4 Try.underlying23 hi hz0 hz1 .i64 .i64 n n n rfl rfl rfl rfl ?b2 ?b3 (Nat.le_refl _) ?_)
  case b2 => rw [hz2]; omega
  case b3 => unfold maxLen; omega
  intro w1 hown hg
  have hb1 : Below w.heap.size w w1 := ⟨hg.os, hg.tape, hg.output, hg.size, fun k hk => hg.block k hk (by simp)⟩
  go_wp2
  go_loopw [4] (fun i wr => ∃ (k : Nat) (ys : List Value), k ≤ n ∧ i = .int .i64 k ∧ ys.take (k * 4) = (rs.take k).flatMap Row.cells ∧ wr.ownsRow w.heap.size 48 4 (.slice (some ⟨w.heap.size, 0, none⟩) n n) n ys ∧ Below w.heap.size w wr) (fun i _ => n - (intOf i).toNat)
  case atStart => exact ⟨0, _, Nat.zero_le _, rfl, by simp, hown, hb1⟩
  case round =>
    clear hown hg hb1
    obtain ⟨k, ys, hk, rfl, hys, hown, hb⟩ := hrel
    have hyl : ys.length = n * 4 := hown.1
    by_cases hlt : k < n
    · obtain ⟨b, off, r, rfl, hbl, hr, h0, h1, h2, h3⟩ := (h.next hb).at_ hlt
      have HYS := hide hys
      clear hys
      go_wp2_with fail
      refine (c_toRow r _).mono ?_
      rintro e w2 ⟨rfl, hb2⟩
      have hown := own_next hown hb2
      have hb := bnext hb hb2
      clear h0 h1 h2 h3 hb2
      have y0 := hown.cellAt (k * 4) (by omega)
      have y1 := hown.cellAt (k * 4 + 1) (by omega)
      have y2 := hown.cellAt (k * 4 + 2) (by omega)
      have y3 := hown.cellAt (k * 4 + 3) (by omega)
      rw [List.getElem?_eq_getElem (by omega)] at y0 y1 y2 y3
      have f0 := hown.frozenAt (k * 4)
      have f1 := hown.frozenAt (k * 4 + 1)
      have f2 := hown.frozenAt (k * 4 + 2)
      have f3 := hown.frozenAt (k * 4 + 3)
      have hst := (((hown.stored (k * 4) (.int .i64 r.h)).1.stored (k * 4 + 1) (.bool r.k)).1.stored (k * 4 + 2) (.int .i64 r.n)).1.stored (k * 4 + 3) (.int .i64 r.f)
      have hb3 := (((hb.setCell (p := ⟨w.heap.size, k * 4, none⟩) (Nat.le_refl _) (.int .i64 r.h)).setCell (p := ⟨w.heap.size, k * 4 + 1, none⟩) (Nat.le_refl _) (.bool r.k)).setCell (p := ⟨w.heap.size, k * 4 + 2, none⟩) (Nat.le_refl _) (.int .i64 r.n)).setCell (p := ⟨w.heap.size, k * 4 + 3, none⟩) (Nat.le_refl _) (.int .i64 r.f)
      have hys2 := take_set4 (ys := ys) (j := k * 4) (by omega) (.int .i64 r.h) (.bool r.k) (.int .i64 r.n) (.int .i64 r.f)
      rw [unhide HYS, ← flat_take_snoc hr, show k * 4 + 4 = (k + 1) * 4 from by omega] at hys2
      have H := hide hys2
      have HR := hide hr
      clear hys2 hr hown hb
      go_wp2
      go_roundw
      case rel => exact ⟨k + 1, _, by omega, by go_num, unhide H, hst.1, hb3⟩
      case measure => simp [intOf]; omega
    · obtain rfl : n = k := by omega
      have hxs : ys = rs.flatMap Row.cells := by
        rw [List.take_of_length_le (by omega), List.take_of_length_le (by omega)] at hys; exact hys
      subst hxs
      subst hlen
      go_wp2
      go_ret
      exact ⟨_, _, rfl, hown, hb⟩

set_option maxHeartbeats 400000 in
theorem c_eqRow_same (r : Row) (w : World) :
    Calls Try.prog 49 #[.agg #[.int .i64 r.h, .bool r.k, .int .i64 r.n, .int .i64 r.f], .agg #[.int .i64 r.h, .bool r.k, .int .i64 r.n, .int .i64 r.f]] w fun e w' => e = .returned (.bool true) ∧ Below w.heap.size w w' := by
  have e1 : (r.h != r.h) = false := by simp
  have e2 : (!(r.k == r.k)) = false := by simp
  have e3 : (r.n != r.n) = false := by simp
  have e4 : (r.f != r.f) = false := by simp
  go_enter Try.func49, Try.ntmps49
  go_wp2
  go_ret
  exact ⟨rfl, bmk (bof _ _) _⟩
set_option maxHeartbeats 800000 in
theorem c_eqRow_ne (r s : Row) (w : World) (h : r ≠ s) :
    Calls Try.prog 49 #[.agg #[.int .i64 r.h, .bool r.k, .int .i64 r.n, .int .i64 r.f], .agg #[.int .i64 s.h, .bool s.k, .int .i64 s.n, .int .i64 s.f]] w fun e w' => e = .returned (.bool false) ∧ Below w.heap.size w w' := by
  obtain ⟨a, b, c, d⟩ := r
  obtain ⟨a', b', c', d'⟩ := s
  dsimp only
  have hc : (a != a') = true ∨ (a != a') = false ∧ (!(b == b')) = true ∨ (a != a') = false ∧ (!(b == b')) = false ∧ (c != c') = true ∨ (a != a') = false ∧ (!(b == b')) = false ∧ (c != c') = false ∧ (d != d') = true := by
    by_cases h1 : a = a' <;> by_cases h2 : b = b' <;> by_cases h3 : c = c' <;> by_cases h4 : d = d' <;> simp_all
  clear h
  rcases hc with h1 | ⟨h1, h2⟩ | ⟨h1, h2, h3⟩ | ⟨h1, h2, h3, h4⟩
  all_goals
    go_enter Try.func49, Try.ntmps49
    go_wp2
    go_ret
    exact ⟨rfl, bmk (bof _ _) _⟩

set_option maxHeartbeats 800000 in
theorem c_eqRowS (A A' : Option Addr) (n n' c c' : Nat) (xs ys : List Row) (w : World) (h1 : RowsAt w A n c xs) (h2 : RowsAt w A' n' c' ys) :
    Calls Try.prog 19 #[.slice A n c, .slice A' n' c'] w fun e w' => e = .returned (.bool (decide (xs = ys))) ∧ Below w.heap.size w w' := by
  have hl1 := h1.len
  have hl2 := h2.len
  have hbd := h1.bd
  have hbd2 := h2.bd
  by_cases hn : n = n'
  · subst hn
    go_enter Try.func19, Try.ntmps19
    go_wp2
    go_loopw [5] (fun i wr => ∃ k : Nat, k ≤ n ∧ i = .int .i64 k ∧ xs.take k = ys.take k ∧ Below w.heap.size w wr) (fun i _ => n - (intOf i).toNat)
    case atStart => exact ⟨0, Nat.zero_le _, rfl, rfl, Below.refl _ _⟩
    case round =>
      obtain ⟨k, hk, rfl, hv, hbel⟩ := hrel
      have HV := hide hv
      clear hv
      by_cases hlt : k < n
      · obtain ⟨b, off, x, rfl, hb, hx, p0, p1, p2, p3⟩ := (h1.next hbel).at_ hlt
        obtain ⟨b', off', y, rfl, hb', hy, q0, q1, q2, q3⟩ := (h2.next hbel).at_ hlt
        have HX := hide hx
        have HY := hide hy
        clear hx hy hl1 hl2
        by_cases hxy : x = y
        · subst hxy
          go_wp2
          go_region_with (go_at_call 49; refine (c_eqRow_same x _).mono ?_; rintro e w2 ⟨rfl, hb2⟩)
          all_goals
            go_wp2
            go_roundw
            case rel => exact ⟨k + 1, by omega, by go_num, by rw [take_snoc' (unhide HX), take_snoc' (unhide HY), unhide HV], bnext hbel.drew (by assumption)⟩
            case measure => simp [intOf]; omega
        · go_wp2
          go_region_with (go_at_call 49; refine (c_eqRow_ne x y _ hxy).mono ?_; rintro e w2 ⟨rfl, hb2⟩)
          all_goals
            go_wp2
            go_ret
            refine ⟨?_, bnext hbel.drew (by assumption)⟩
            have hd : xs ≠ ys := fun e => by subst e; have a := unhide HX; rw [unhide HY] at a; injection a with a; exact hxy a.symm
            simp [hd]
      · have hd : xs = ys := by
          have hv := unhide HV
          rwa [List.take_of_length_le (by omega), List.take_of_length_le (by omega)] at hv
        have HD := hide hd
        clear hd hl1 hl2
        go_wp2
        go_ret
        exact ⟨by simp [unhide HD], hbel⟩
  · have hne : ((n : Int) != (n' : Int)) = true := by simp; omega
    have hd : xs ≠ ys := fun e => hn (by rw [← hl1, ← hl2, e])
    clear hl1 hl2
    go_enter Try.func19, Try.ntmps19
    go_wp2
    go_ret
    exact ⟨by simp [hd], Below.refl _ _⟩

theorem c_eqRowS_same (A A' : Option Addr) (n n' c c' : Nat) (xs : List Row) (w : World) (h1 : RowsAt w A n c xs) (h2 : RowsAt w A' n' c' xs) :
    Calls Try.prog 19 #[.slice A n c, .slice A' n' c'] w fun e w' => e = .returned (.bool true) ∧ Below w.heap.size w w' :=
  (c_eqRowS A A' n n' c c' xs xs w h1 h2).mono fun _ _ ⟨he, hb⟩ => ⟨by rw [he, decide_eq_true rfl], hb⟩
/-- The row that a mark leaves from the number q on. -/
def markRow (q : Int) : Row := ⟨q, (q + 1) % 3 == 0, q + 2, q + 3⟩
def marksR (k : Int) (n : Nat) : List Row := (List.range n).map fun (i : Nat) => markRow (k + 4 * (i : Int))
theorem marksR_len (k : Int) (n : Nat) : (marksR k n).length = n := by simp [marksR]
theorem marksR_get {k : Int} {n i : Nat} (h : i < n) : (marksR k n)[i]? = some (markRow (k + 4 * (i : Int))) := by simp [marksR, h]
theorem marksR_snoc (k : Int) (n : Nat) : marksR k (n + 1) = marksR k n ++ [markRow (k + 4 * (n : Int))] := by simp [marksR, List.range_succ]

theorem marks_atRowS {w : World} {B c n : Nat} {A : Option Addr} {k : Int} (h : OwnR w B A c (marksR k n)) : RowsAt w A n c (marksR k n) := by
  have h' := h.at_; rwa [marksR_len] at h'

set_option maxHeartbeats 800000 in
theorem c_markRowS (A : Option Addr) (c B : Nat) (rs : List Row) (k0 : Int) (w : World) (h : OwnR w B A c rs) (h0 : 0 ≤ k0) (h1 : k0 ≤ 1000000000000) (hn : rs.length ≤ 1000000000000) :
    Calls Try.prog 32 #[.slice A rs.length c, .int .i64 k0] w fun e w' => e = .returned (.int .i64 (k0 + 4 * rs.length)) ∧ OwnR w' B A c (marksR k0 rs.length) ∧ w.grownBy w' (Value.slice A rs.length c).ownBlock := by
  obtain ⟨n, hn'⟩ : ∃ n, rs.length = n := ⟨_, rfl⟩
  unfold OwnR at h
  rw [hn'] at h hn ⊢
  have hA : n = 0 ∨ ∃ g, A = some ⟨g, 0, none⟩ := by
    rcases h.2 with ⟨_, h0⟩ | ⟨g, _, _, hv, _⟩
    · exact .inl h0
    · injection hv with hA; exact .inr ⟨g, hA⟩
  rcases hA with rfl | ⟨g, rfl⟩
  · have hx : rs = [] := List.eq_nil_of_length_eq_zero hn'
    subst hx
    clear hn'
    go_enter Try.func32, Try.ntmps32
    go_wp2
    refine wp_loop_rounds 1 ?_
    rw [rounds_succ]
    go_wp2
    go_ret
    exact ⟨by simp, by unfold OwnR; exact h, ⟨rfl, rfl, rfl, Nat.le_refl _, fun _ _ _ => rfl⟩⟩
  · have hbd := (Sl.of_own h).bd
    clear hn'
    go_enter Try.func32, Try.ntmps32
    go_wp2
    go_loopw [1, 5] (fun q i wr => ∃ (k : Nat) (ys : List Value), k ≤ n ∧ i = .int .i64 k ∧ q = .int .i64 (k0 + 4 * k) ∧ ys.take (k * 4) = (marksR k0 k).flatMap Row.cells ∧ wr.ownsRow B 48 4 (.slice (some ⟨g, 0, none⟩) n c) n ys ∧ w.grownBy wr (some g)) (fun _ i _ => n - (intOf i).toNat)
    case atStart => exact ⟨0, _, Nat.zero_le _, rfl, by simp, by simp [marksR], h, ⟨rfl, rfl, rfl, Nat.le_refl _, fun _ _ _ => rfl⟩⟩
    case round =>
      clear h
      obtain ⟨k, ys, hk, rfl, rfl, hys, hown, hg⟩ := hrel
      have hyl : ys.length = n * 4 := hown.1
      by_cases hlt : k < n
      · have y0 := hown.cellAt (k * 4) (by omega)
        have y1 := hown.cellAt (k * 4 + 1) (by omega)
        have y2 := hown.cellAt (k * 4 + 2) (by omega)
        have y3 := hown.cellAt (k * 4 + 3) (by omega)
        rw [List.getElem?_eq_getElem (by omega)] at y0 y1 y2 y3
        have f0 := hown.frozenAt (k * 4)
        have f1 := hown.frozenAt (k * 4 + 1)
        have f2 := hown.frozenAt (k * 4 + 2)
        have f3 := hown.frozenAt (k * 4 + 3)
        have hys2 := take_set4 (ys := ys) (j := k * 4) (by omega) (.int .i64 (k0 + 4 * k)) (.bool ((k0 + 4 * k + 1) % 3 == 0)) (.int .i64 (k0 + 4 * k + 1 + 1)) (.int .i64 (k0 + 4 * k + 1 + 1 + 1))
        have hst := (((hown.stored (k * 4) (.int .i64 (k0 + 4 * k))).1.stored (k * 4 + 1) (.bool ((k0 + 4 * k + 1) % 3 == 0))).1.stored (k * 4 + 2) (.int .i64 (k0 + 4 * k + 1 + 1))).1.stored (k * 4 + 3) (.int .i64 (k0 + 4 * k + 1 + 1 + 1))
        have hset : ∀ (wx : World) (j : Nat) (u : Value), w.grownBy wx (some g) → w.grownBy (wx.setCell ⟨g, j, none⟩ u) (some g) := fun wx j u hg =>
          ⟨hg.os, hg.tape, hg.output, by simpa [World.setCell] using hg.size, fun i hi hne => (Below.heap_setCell wx ⟨g, j, none⟩ _ i (fun e => hne (by rw [e]))).trans (hg.block i hi hne)⟩
        have hgl := hset _ (k * 4 + 3) (.int .i64 (k0 + 4 * k + 1 + 1 + 1)) (hset _ (k * 4 + 2) (.int .i64 (k0 + 4 * k + 1 + 1)) (hset _ (k * 4 + 1) (.bool ((k0 + 4 * k + 1) % 3 == 0)) (hset _ (k * 4) (.int .i64 (k0 + 4 * k)) hg)))
        have hmk : (marksR k0 (k + 1)).flatMap Row.cells = (marksR k0 k).flatMap Row.cells ++ [.int .i64 (k0 + 4 * k), .bool ((k0 + 4 * k + 1) % 3 == 0), .int .i64 (k0 + 4 * k + 1 + 1), .int .i64 (k0 + 4 * k + 1 + 1 + 1)] := by
          rw [marksR_snoc, flat_snoc]; simp [markRow]; omega
        rw [hys, ← hmk, show k * 4 + 4 = (k + 1) * 4 from by omega] at hys2
        have H := hide hys2
        clear hys2 hys hmk hset
        go_wp2
        go_roundw
        case rel => exact ⟨k + 1, _, by omega, by go_num, by go_num, unhide H, hst.1, hgl⟩
        case measure => simp [intOf]; omega
      · obtain rfl : n = k := by omega
        have hm : ys = (marksR k0 n).flatMap Row.cells := by
          rw [List.take_of_length_le (by omega)] at hys; exact hys
        subst hm
        go_wp2
        go_ret
        refine ⟨rfl, ?_, hg⟩
        unfold OwnR
        rw [marksR_len]
        exact hown

end Go.Proofs.Ytfflnkkhemaanaa
