/- Slices of Heading: contracts of the small functions of the laws that copy, compare and mark them. No condition. -/
import Derived.Test.YtdjilkohnhejiaaInts
import Derived.Deep.RegionWith
namespace Go.Proofs.Ytdjilkohnhejiaa
open Go.RowKit
set_option linter.unusedVariables false

structure Heading where
  pos : Int
  num : Int
  deriving DecidableEq
def Heading.cells (r : Heading) : List Value := [.int .i64 r.pos, .int .i64 r.num]
theorem Heading.cells_len (r : Heading) : r.cells.length = 2 := rfl
def HeadsAt (w : World) (A : Option Addr) (n c : Nat) (rs : List Heading) : Prop := Sl w A n c 2 (rs.flatMap Heading.cells)
section heads
variable {w w' : World} {A : Option Addr} {n c k : Nat} {rs : List Heading}
theorem HeadsAt.len (h : HeadsAt w A n c rs) : rs.length = n := by
  have := Rd.len h.1; rw [flatMap_len Heading.cells_len] at this; omega
theorem HeadsAt.next (h : HeadsAt w A n c rs) (hb : Below w.heap.size w w') : HeadsAt w' A n c rs := Sl.next h hb
theorem HeadsAt.below {B : Nat} (h : HeadsAt w A n c rs) (hB : w.heap.size ≤ B) (hb : Below B w w') : HeadsAt w' A n c rs := Sl.below h hB hb
theorem HeadsAt.bd (h : HeadsAt w A n c rs) : n ≤ c ∧ c ≤ 9223372036854775807 := h.2
theorem HeadsAt.at_ (h : HeadsAt w A n c rs) (hk : k < n) : ∃ b off r, A = some ⟨b, off, none⟩ ∧ b < w.heap.size ∧ rs[k]? = some r ∧ w.cell? ⟨b, off + k * 2, none⟩ = some (.int .i64 r.pos) ∧ w.cell? ⟨b, off + k * 2 + 1, none⟩ = some (.int .i64 r.num) := by
  obtain ⟨b, off, e, hl, hc⟩ := Rd.cells h.1 (by omega)
  have hlen := h.len
  have hx : rs[k]? = some (rs[k]'(by omega)) := List.getElem?_eq_getElem (by omega)
  have hg := fun j hj => flatMap_get Heading.cells_len rs k j _ hx hj
  refine ⟨b, off, _, e, hl, hx, ?_, ?_⟩
  · exact hc (k * 2 + 0) _ (hg 0 (by omega))
  · exact hc (k * 2 + 1) _ (hg 1 (by omega))
end heads
theorem infoHeading : (Try.prog.info? 32).map (fun i => (i.zero, i.size, i.bytes)) = some (some (.agg #[.int .i64 0, .int .i64 0]), 2, 16) := by kernel_rfl
theorem flat_snoc_heads (rs : List Heading) (r : Heading) : (rs ++ [r]).flatMap Heading.cells = rs.flatMap Heading.cells ++ [.int .i64 r.pos, .int .i64 r.num] := by simp [Heading.cells]
theorem cells_new_heads (w : World) (t : TypeId) (a0 a1 : Value) : ∀ j u, [a0, a1][j]? = some u → (w.alloc (.cells #[a0, a1] t)).cell? ((⟨w.heap.size, 0, none⟩ : Addr).add j) = some u := by
  intro j u hj
  rw [add_lit', Nat.zero_add, (Blk.new w t #[a0, a1]).cell j]
  simpa using hj
theorem one_heads (r : Heading) : ∀ u ∈ ([.int .i64 r.pos, .int .i64 r.num] : List Value), u.oneCell' = true := by
  intro u hu; simp at hu; rcases hu with rfl | rfl <;> rfl
/-- A slice that the call itself made, with its elements. -/
def OwnH (w : World) (B : Nat) (A : Option Addr) (c : Nat) (rs : List Heading) : Prop := w.ownsRow B 32 2 (.slice A rs.length c) rs.length (rs.flatMap Heading.cells)
section ownheads
variable {w w' : World} {A : Option Addr} {B c : Nat} {rs : List Heading}
theorem OwnH.at_ (h : OwnH w B A c rs) : HeadsAt w A rs.length c rs := Sl.of_own h
theorem OwnH.next (h : OwnH w B A c rs) (hb : Below w.heap.size w w') : OwnH w' B A c rs := own_next h hb
theorem OwnH.of {v : Value} (h : w.ownsRow B 32 2 v rs.length (rs.flatMap Heading.cells)) : ∃ A c, v = .slice A rs.length c ∧ OwnH w B A c rs := by
  obtain ⟨A, c, rfl, _, _, _, _, h'⟩ := own_form h
  exact ⟨A, c, rfl, h'⟩
end ownheads
theorem take_set_heads {ys : List Value} {j : Nat} (hj : j + 1 < ys.length) (a0 a1 : Value) : ((ys.set j a0).set (j + 1) a1).take (j + 2) = ys.take j ++ [a0, a1] := by
  rw [show j + 2 = j + 1 + 1 from rfl, take_set (by simp; omega), take_set (by omega)]
  simp
theorem flat_take_snoc_heads {rs : List Heading} {k : Nat} {r : Heading} (h : rs[k]? = some r) : (rs.take (k + 1)).flatMap Heading.cells = (rs.take k).flatMap Heading.cells ++ [.int .i64 r.pos, .int .i64 r.num] := by
  rw [take_snoc' h, flat_snoc_heads]

set_option maxHeartbeats 400000 in
theorem c_toHeading (r : Heading) (w : World) :
    Calls Try.prog 50 #[.agg #[.int .i64 r.pos, .int .i64 r.num]] w fun e w' => e = .returned (.agg #[.int .i64 r.pos, .int .i64 r.num]) ∧ Below w.heap.size w w' := by
  go_enter Try.func50, Try.ntmps50
  go_wp2
  refine bodyPost_ret (v := .agg #[.int .i64 r.pos, .int .i64 r.num]) (by simp [results, Try.results50, go_sem]) rfl ⟨rfl, ?_⟩
  exact bmk (bmk (bof _ _) _) _

set_option maxHeartbeats 400000 in
theorem c_szHeadingS_big (A : Option Addr) (n c : Nat) (l : Int) (w : World) (hn : n ≤ 9223372036854775807) (hl : 0 ≤ l ∧ l ≤ 1048576) (h : l < n) :
    Calls Try.prog 16 #[.slice A n c, .int .i64 l] w fun e w' => e = .returned (.int .i64 (-1)) ∧ w = w' := by
  go_enter Try.func16, Try.ntmps16
  go_wp2
  go_ret
  exact ⟨rfl, rfl⟩
set_option maxHeartbeats 400000 in
theorem c_szHeadingS_ok (A : Option Addr) (n c : Nat) (l : Int) (w : World) (hl : l ≤ 1048576) (h : (n : Int) ≤ l) :
    Calls Try.prog 16 #[.slice A n c, .int .i64 l] w fun e w' => e = .returned (.int .i64 (l - n)) ∧ w = w' := by
  go_enter Try.func16, Try.ntmps16
  go_wp2
  go_ret
  exact ⟨rfl, rfl⟩

set_option maxHeartbeats 400000 in
theorem c_toHeadingS (A : Option Addr) (n c : Nat) (rs : List Heading) (w : World) (h : HeadsAt w A n c rs) (hn : n ≤ 16777216) :
    Calls Try.prog 18 #[.slice A n c] w fun e w' => ∃ A' c', e = .returned (.slice A' n c') ∧ OwnH w' w.heap.size A' c' rs ∧ Below w.heap.size w w' := by
  obtain ⟨i0, hi, hz0, hz1, hz2⟩ := info_parts infoHeading
  have hbd := h.bd
  have hlen := h.len
  go_enter Try.func18, Try.ntmps18
  go_wp2_with (at_make; refine wpList_make_full _ rfl _ _ 25 rfl w.heap.size 32 i0 (.agg #[.int .i64 0, .int .i64 0]) 2 Try.underlying25 hi hz0 hz1 .i64 .i64 n n n rfl rfl rfl rfl ?b2 ?b3 (Nat.le_refl _) ?_)
  case b2 => rw [hz2]; omega
  case b3 => unfold maxLen; omega
  intro w1 hown hg
  have hb1 : Below w.heap.size w w1 := ⟨hg.os, hg.tape, hg.output, hg.size, fun k hk => hg.block k hk (by simp)⟩
  go_wp2
  go_loopw [4] (fun i wr => ∃ (k : Nat) (ys : List Value), k ≤ n ∧ i = .int .i64 k ∧ ys.take (k * 2) = (rs.take k).flatMap Heading.cells ∧ wr.ownsRow w.heap.size 32 2 (.slice (some ⟨w.heap.size, 0, none⟩) n n) n ys ∧ Below w.heap.size w wr) (fun i _ => n - (intOf i).toNat)
  case atStart => exact ⟨0, _, Nat.zero_le _, rfl, by simp, hown, hb1⟩
  case round =>
    clear hown hg hb1
    obtain ⟨k, ys, hk, rfl, hys, hown, hb⟩ := hrel
    have hyl : ys.length = n * 2 := hown.1
    by_cases hlt : k < n
    · obtain ⟨b, off, r, rfl, hbl, hr, h0, h1⟩ := (h.next hb).at_ hlt
      have HYS := hide hys
      clear hys
      go_wp2_with fail
      refine (c_toHeading r _).mono ?_
      rintro e w2 ⟨rfl, hb2⟩
      have hown := own_next hown hb2
      have hb := bnext hb hb2
      clear h0 h1 hb2
      have y0 := hown.cellAt (k * 2) (by omega)
      have y1 := hown.cellAt (k * 2 + 1) (by omega)
      rw [List.getElem?_eq_getElem (by omega)] at y0 y1
      have f0 := hown.frozenAt (k * 2)
      have f1 := hown.frozenAt (k * 2 + 1)
      have hst := (hown.stored (k * 2) (.int .i64 r.pos)).1.stored (k * 2 + 1) (.int .i64 r.num)
      have hb3 := ((hb).setCell (p := ⟨w.heap.size, k * 2, none⟩) (Nat.le_refl _) (.int .i64 r.pos)).setCell (p := ⟨w.heap.size, k * 2 + 1, none⟩) (Nat.le_refl _) (.int .i64 r.num)
      have hys2 := take_set_heads (ys := ys) (j := k * 2) (by omega) (.int .i64 r.pos) (.int .i64 r.num)
      rw [unhide HYS, ← flat_take_snoc_heads hr, show k * 2 + 2 = (k + 1) * 2 from by omega] at hys2
      have H := hide hys2
      have HR := hide hr
      clear hys2 hr hown hb
      go_wp2
      go_roundw
      case rel => exact ⟨k + 1, _, by omega, by go_num, unhide H, hst.1, hb3⟩
      case measure => simp [intOf]; omega
    · obtain rfl : n = k := by omega
      have hxs : ys = rs.flatMap Heading.cells := by
        rw [List.take_of_length_le (by omega), List.take_of_length_le (by omega)] at hys; exact hys
      subst hxs
      subst hlen
      go_wp2
      go_ret
      exact ⟨_, _, rfl, hown, hb⟩

set_option maxHeartbeats 400000 in
theorem c_eqHeading_same (r : Heading) (w : World) :
    Calls Try.prog 52 #[.agg #[.int .i64 r.pos, .int .i64 r.num], .agg #[.int .i64 r.pos, .int .i64 r.num]] w fun e w' => e = .returned (.bool true) ∧ Below w.heap.size w w' := by
  have e0 : (r.pos != r.pos) = false := by simp
  have e1 : (r.num != r.num) = false := by simp
  go_enter Try.func52, Try.ntmps52
  go_wp2
  go_ret
  exact ⟨rfl, bmk (bof _ _) _⟩

set_option maxHeartbeats 800000 in
theorem c_eqHeadingS_same (A A' : Option Addr) (n n' c c' : Nat) (xs : List Heading) (w : World) (h1 : HeadsAt w A n c xs) (h2 : HeadsAt w A' n' c' xs) :
    Calls Try.prog 20 #[.slice A n c, .slice A' n' c'] w fun e w' => e = .returned (.bool true) ∧ Below w.heap.size w w' := by
  obtain rfl : n = n' := by rw [← h1.len, ← h2.len]
  have hbd := h1.bd
  have hbd2 := h2.bd
  go_enter Try.func20, Try.ntmps20
  go_wp2
  go_loopw [5] (fun i wr => ∃ k : Nat, k ≤ n ∧ i = .int .i64 k ∧ Below w.heap.size w wr) (fun i _ => n - (intOf i).toNat)
  case atStart => exact ⟨0, Nat.zero_le _, rfl, Below.refl _ _⟩
  case round =>
    obtain ⟨k, hk, rfl, hbel⟩ := hrel
    by_cases hlt : k < n
    · obtain ⟨b, off, x, rfl, hb, hx, p0, p1⟩ := (h1.next hbel).at_ hlt
      obtain ⟨b', off', y, rfl, hb', hy, q0, q1⟩ := (h2.next hbel).at_ hlt
      rw [hx] at hy
      injection hy with hy
      subst hy
      clear hx
      go_wp2
      go_region_with (go_at_call 52; refine (c_eqHeading_same x _).mono ?_; rintro e w2 ⟨rfl, hb2⟩)
      all_goals
        go_wp2
        go_roundw
        case rel => exact ⟨k + 1, by omega, by go_num, bnext hbel.drew (by assumption)⟩
        case measure => simp [intOf]; omega
    · go_wp2
      go_ret
      exact ⟨rfl, hbel⟩

/-- The element that a mark leaves from the number q on. -/
def markHeading (q : Int) : Heading := ⟨q, q + 1⟩
def marksHeading (k : Int) (n : Nat) : List Heading := (List.range n).map fun (i : Nat) => markHeading (k + 2 * (i : Int))
theorem marksHeading_len (k : Int) (n : Nat) : (marksHeading k n).length = n := by simp [marksHeading]
theorem marksHeading_get {k : Int} {n i : Nat} (h : i < n) : (marksHeading k n)[i]? = some (markHeading (k + 2 * (i : Int))) := by simp [marksHeading, h]
theorem marksHeading_snoc (k : Int) (n : Nat) : marksHeading k (n + 1) = marksHeading k n ++ [markHeading (k + 2 * (n : Int))] := by simp [marksHeading, List.range_succ]
theorem marks_atHeadingS {w : World} {B c n : Nat} {A : Option Addr} {k : Int} (h : OwnH w B A c (marksHeading k n)) : HeadsAt w A n c (marksHeading k n) := by
  have h' := h.at_; rwa [marksHeading_len] at h'

set_option maxHeartbeats 800000 in
theorem c_markHeadingS (A : Option Addr) (c B : Nat) (rs : List Heading) (k0 : Int) (w : World) (h : OwnH w B A c rs) (h0 : 0 ≤ k0) (h1 : k0 ≤ 1000000000000) (hn : rs.length ≤ 1000000000000) :
    Calls Try.prog 30 #[.slice A rs.length c, .int .i64 k0] w fun e w' => e = .returned (.int .i64 (k0 + 2 * rs.length)) ∧ OwnH w' B A c (marksHeading k0 rs.length) ∧ w.grownBy w' (Value.slice A rs.length c).ownBlock := by
  obtain ⟨n, hn'⟩ : ∃ n, rs.length = n := ⟨_, rfl⟩
  unfold OwnH at h
  rw [hn'] at h hn ⊢
  have hA : n = 0 ∨ ∃ g, A = some ⟨g, 0, none⟩ := by
    rcases h.2 with ⟨_, h0⟩ | ⟨g, _, _, hv, _⟩
    · exact .inl h0
    · injection hv with hA; exact .inr ⟨g, hA⟩
  rcases hA with rfl | ⟨g, rfl⟩
  · have hx : rs = [] := List.eq_nil_of_length_eq_zero hn'
    subst hx
    clear hn'
    go_enter Try.func30, Try.ntmps30
    go_wp2
    refine wp_loop_rounds 1 ?_
    rw [rounds_succ]
    go_wp2
    go_ret
    exact ⟨by simp, by unfold OwnH; exact h, ⟨rfl, rfl, rfl, Nat.le_refl _, fun _ _ _ => rfl⟩⟩
  · have hbd := (Sl.of_own h).bd
    clear hn'
    go_enter Try.func30, Try.ntmps30
    go_wp2
    go_loopw [1, 5] (fun q i wr => ∃ (k : Nat) (ys : List Value), k ≤ n ∧ i = .int .i64 k ∧ q = .int .i64 (k0 + 2 * k) ∧ ys.take (k * 2) = (marksHeading k0 k).flatMap Heading.cells ∧ wr.ownsRow B 32 2 (.slice (some ⟨g, 0, none⟩) n c) n ys ∧ w.grownBy wr (some g)) (fun _ i _ => n - (intOf i).toNat)
    case atStart => exact ⟨0, _, Nat.zero_le _, rfl, by simp, by simp [marksHeading], h, ⟨rfl, rfl, rfl, Nat.le_refl _, fun _ _ _ => rfl⟩⟩
    case round =>
      clear h
      obtain ⟨k, ys, hk, rfl, rfl, hys, hown, hg⟩ := hrel
      have hyl : ys.length = n * 2 := hown.1
      by_cases hlt : k < n
      · skip
        have y0 := hown.cellAt (k * 2) (by omega)
        have y1 := hown.cellAt (k * 2 + 1) (by omega)
        rw [List.getElem?_eq_getElem (by omega)] at y0 y1
        have f0 := hown.frozenAt (k * 2)
        have f1 := hown.frozenAt (k * 2 + 1)
        have hys2 := take_set_heads (ys := ys) (j := k * 2) (by omega) (.int .i64 (k0 + 2 * k)) (.int .i64 (k0 + 2 * k + 1))
        have hst := (hown.stored (k * 2) (.int .i64 (k0 + 2 * k))).1.stored (k * 2 + 1) (.int .i64 (k0 + 2 * k + 1))
        have hset : ∀ (wx : World) (j : Nat) (u : Value), w.grownBy wx (some g) → w.grownBy (wx.setCell ⟨g, j, none⟩ u) (some g) := fun wx j u hg =>
          ⟨hg.os, hg.tape, hg.output, by simpa [World.setCell] using hg.size, fun i hi hne => (Below.heap_setCell wx ⟨g, j, none⟩ _ i (fun e => hne (by rw [e]))).trans (hg.block i hi hne)⟩
        have hgl := hset _ (k * 2 + 1) (.int .i64 (k0 + 2 * k + 1)) (hset _ (k * 2) (.int .i64 (k0 + 2 * k)) (hg))
        have hmk : (marksHeading k0 (k + 1)).flatMap Heading.cells = (marksHeading k0 k).flatMap Heading.cells ++ [.int .i64 (k0 + 2 * k), .int .i64 (k0 + 2 * k + 1)] := by
          rw [marksHeading_snoc, flat_snoc_heads]; simp [markHeading]
        rw [hys, ← hmk, show k * 2 + 2 = (k + 1) * 2 from by omega] at hys2
        have H := hide hys2
        clear hys2 hys hmk hset
        go_wp2
        go_roundw
        case rel => exact ⟨k + 1, _, by omega, by go_num, by go_num, unhide H, hst.1, hgl⟩
        case measure => simp [intOf]; omega
      · obtain rfl : n = k := by omega
        have hm : ys = (marksHeading k0 n).flatMap Heading.cells := by
          rw [List.take_of_length_le (by omega)] at hys; exact hys
        subst hm
        go_wp2
        go_ret
        refine ⟨rfl, ?_, hg⟩
        unfold OwnH
        rw [marksHeading_len]
        exact hown

end Go.Proofs.Ytdjilkohnhejiaa
