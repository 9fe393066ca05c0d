/- Pages with notes and figures in memory: what they read as, and the small functions of the laws that copy and compare them. No condition. -/
import Derived.Test.YtfflnkkhemaanaaLeavesP
import Derived.Test.YtfflnkkhemaanaaQueue
import Derived.Deep.RegionWith
namespace Go.Proofs.Ytfflnkkhemaanaa
open Go.RowKit
set_option linter.unusedVariables false

/-- A page as it lies in memory: with the place of its figures. -/
structure LfV where
  from_ : Int
  to_ : Int
  notes : Int
  A : Option Addr
  c : Nat
  figs : List Int
def LfV.leaf (l : LfV) : Leaf := ⟨l.from_, l.to_, l.notes, l.figs⟩
def LfV.cells (l : LfV) : List Value := [.int .i64 l.from_, .int .i64 l.to_, .int .i64 l.notes, .slice l.A l.figs.length l.c]
theorem LfV.cells_len (l : LfV) : l.cells.length = 4 := rfl
def LfAt (w : World) (l : LfV) : Prop := IntsAt w l.A l.figs.length l.c l.figs
structure LeavesAt (w : World) (A : Option Addr) (n c : Nat) (ls : List LfV) : Prop where
  sl : Sl w A n c 4 (ls.flatMap LfV.cells)
  figs : ∀ l ∈ ls, LfAt w l
section leaves
variable {w w' : World} {A : Option Addr} {n c k : Nat} {ls : List LfV}
theorem LeavesAt.len (h : LeavesAt w A n c ls) : ls.length = n := by
  have := Rd.len h.sl.1; rw [flatMap_len LfV.cells_len] at this; omega
theorem LeavesAt.below {B : Nat} (h : LeavesAt w A n c ls) (hB : w.heap.size ≤ B) (hb : Below B w w') : LeavesAt w' A n c ls :=
  ⟨h.sl.below hB hb, fun l hl => IntsAt.below (h.figs l hl) hB hb⟩
theorem LeavesAt.next (h : LeavesAt w A n c ls) (hb : Below w.heap.size w w') : LeavesAt w' A n c ls := h.below (Nat.le_refl _) hb
theorem LeavesAt.bd (h : LeavesAt w A n c ls) : n ≤ c ∧ c ≤ 9223372036854775807 := h.sl.2
theorem LeavesAt.at_ (h : LeavesAt w A n c ls) (hk : k < n) : ∃ b off l, A = some ⟨b, off, none⟩ ∧ b < w.heap.size ∧ ls[k]? = some l ∧ LfAt w l ∧
    w.cell? ⟨b, off + k * 4, none⟩ = some (.int .i64 l.from_) ∧ w.cell? ⟨b, off + k * 4 + 1, none⟩ = some (.int .i64 l.to_) ∧
    w.cell? ⟨b, off + k * 4 + 2, none⟩ = some (.int .i64 l.notes) ∧ w.cell? ⟨b, off + k * 4 + 3, none⟩ = some (.slice l.A l.figs.length l.c) := by
  obtain ⟨b, off, e, hl, hc⟩ := Rd.cells h.sl.1 (by omega)
  have hlen := h.len
  have hx : ls[k]? = some (ls[k]'(by omega)) := List.getElem?_eq_getElem (by omega)
  have hg := fun j hj => flatMap_get LfV.cells_len ls k j _ hx hj
  refine ⟨b, off, _, e, hl, hx, h.figs _ (List.getElem_mem _), ?_, ?_, ?_, ?_⟩
  · exact hc (k * 4 + 0) _ (hg 0 (by omega))
  · exact hc (k * 4 + 1) _ (hg 1 (by omega))
  · exact hc (k * 4 + 2) _ (hg 2 (by omega))
  · exact hc (k * 4 + 3) _ (hg 3 (by omega))
end leaves
theorem OwnI.far {w : World} {B c : Nat} {A : Option Addr} {xs : List Int} (h : OwnI w B A c xs) {p : Addr} (hp : p.block < B) (u : Value) : OwnI (w.setCell p u) B A c xs :=
  World.ownsRow.kept h (gset (grefl w (some p.block)) (.inl rfl) u) (by
    cases hv : (Value.slice A xs.length c).ownBlock with
    | none => exact .inl rfl
    | some k => exact .inr (fun e => by have := (World.ownsRow.lt h k hv).1; injection e with e; omega))
theorem OwnI.base {w : World} {B B' c : Nat} {A : Option Addr} {xs : List Int} (h : OwnI w B A c xs) (hB : B' ≤ B) : OwnI w B' A c xs := own_base h hB
theorem infoLeaf : (Try.prog.info? 26).map (fun i => (i.zero, i.size, i.bytes)) = some (some (.agg #[.int .i64 0, .int .i64 0, .int .i64 0, .slice none 0 0]), 4, 48) := by kernel_rfl

set_option maxHeartbeats 400000 in
theorem c_szIntS (A : Option Addr) (n c : Nat) (l : Int) (w : World) (hn : n ≤ 9223372036854775807) (hl : 0 ≤ l ∧ l ≤ 1048576) :
    Calls Try.prog 46 #[.slice A n c, .int .i64 l] w fun e w' => e = .returned (.int .i64 (if (n : Int) ≤ l then l - n else -1)) ∧ w = w' := by
  by_cases h : (n : Int) ≤ l
  · rw [if_pos h]
    go_enter Try.func46, Try.ntmps46
    go_wp2
    go_ret
    exact ⟨rfl, rfl⟩
  · rw [if_neg h]
    go_enter Try.func46, Try.ntmps46
    go_wp2
    go_ret
    exact ⟨rfl, rfl⟩
set_option maxHeartbeats 400000 in
theorem c_szLeaf (x y z : Int) (A : Option Addr) (n c : Nat) (l : Int) (w : World) (hn : n ≤ 9223372036854775807) (hl : 0 ≤ l ∧ l ≤ 1048576) :
    Calls Try.prog 16 #[.agg #[.int .i64 x, .int .i64 y, .int .i64 z, .slice A n c], .int .i64 l] w fun e w' => e = .returned (.int .i64 (if (n : Int) ≤ l then l - n else -1)) ∧ Below w.heap.size w w' := by
  by_cases h : (n : Int) ≤ l
  · rw [if_pos h]
    go_enter Try.func16, Try.ntmps16
    go_wp2_with fail
    refine (c_szIntS A n c l _ hn hl).mono ?_
    rintro e w1 ⟨he, rfl⟩
    rw [if_pos h] at he
    subst he
    go_wp2
    go_ret
    exact ⟨rfl, bof _ _⟩
  · rw [if_neg h]
    go_enter Try.func16, Try.ntmps16
    go_wp2_with fail
    refine (c_szIntS A n c l _ hn hl).mono ?_
    rintro e w1 ⟨he, rfl⟩
    rw [if_neg (by omega)] at he
    subst he
    go_wp2
    go_ret
    exact ⟨rfl, bof _ _⟩
set_option maxHeartbeats 400000 in
theorem c_toLeaf (x y z : Int) (A : Option Addr) (n c : Nat) (fs : List Int) (w : World) (h : IntsAt w A n c fs) (hn : n ≤ 16777216) :
    Calls Try.prog 18 #[.agg #[.int .i64 x, .int .i64 y, .int .i64 z, .slice A n c]] w fun e w' => ∃ A' c', e = .returned (.agg #[.int .i64 x, .int .i64 y, .int .i64 z, .slice A' n c']) ∧ OwnI w' w.heap.size A' c' fs ∧ Below w.heap.size w w' := by
  go_enter Try.func18, Try.ntmps18
  go_wp2_with fail
  have hB := bmk (bmk (bof w (.cells #[.int .i64 x, .int .i64 y, .int .i64 z, .slice A n c] 34)) (.cells #[.int .i64 0, .int .i64 0, .int .i64 0, .slice none 0 0] 26)) (.cells #[.int .i64 x, .int .i64 y, .int .i64 z, .slice none 0 0] 26)
  have q2 := Blk.new ((w.alloc (.cells #[.int .i64 x, .int .i64 y, .int .i64 z, .slice A n c] 34)).alloc (.cells #[.int .i64 0, .int .i64 0, .int .i64 0, .slice none 0 0] 26)) 26 #[.int .i64 x, .int .i64 y, .int .i64 z, .slice none 0 0]
  have q1 := (Blk.new (w.alloc (.cells #[.int .i64 x, .int .i64 y, .int .i64 z, .slice A n c] 34)) 26 #[.int .i64 0, .int .i64 0, .int .i64 0, .slice none 0 0]).alloc (.cells #[.int .i64 x, .int .i64 y, .int .i64 z, .slice none 0 0] 26)
  simp only [size_alloc'] at q1 q2
  refine (c_toIntS A n c fs _ (h.next hB) hn).mono ?_
  rintro e w1 ⟨A', c', rfl, O, hb⟩
  replace q1 := q1.next hb
  replace q2 := q2.next hb
  have r0 : w1.cell? ⟨w.heap.size + 1 + 1, 0, none⟩ = some (.int .i64 x) := q2.cell 0
  have r1 : w1.cell? ⟨w.heap.size + 1 + 1, 1, none⟩ = some (.int .i64 y) := q2.cell 1
  have r2 : w1.cell? ⟨w.heap.size + 1 + 1, 2, none⟩ = some (.int .i64 z) := q2.cell 2
  have r3 : w1.cell? ⟨w.heap.size + 1 + 1, 3, none⟩ = some (.slice none 0 0) := q2.cell 3
  have f3 := q2.frozen 3
  have s0 : w1.cell? ⟨w.heap.size + 1, 0, none⟩ = some (.int .i64 0) := q1.cell 0
  have s1 : w1.cell? ⟨w.heap.size + 1, 1, none⟩ = some (.int .i64 0) := q1.cell 1
  have s2 : w1.cell? ⟨w.heap.size + 1, 2, none⟩ = some (.int .i64 0) := q1.cell 2
  have s3 : w1.cell? ⟨w.heap.size + 1, 3, none⟩ = some (.slice none 0 0) := q1.cell 3
  have g0 := q1.frozen 0
  have g1 := q1.frozen 1
  have g2 := q1.frozen 2
  have g3 := q1.frozen 3
  replace hB := bnext hB hb
  have hbs := hb.size
  go_wp2
  simp only [size_alloc'] at O hbs
  refine bodyPost_ret (v := .agg #[.int .i64 x, .int .i64 y, .int .i64 z, .slice A' n c']) (by simp [results, Try.results18, go_sem, *]) rfl ⟨A', c', rfl, ?_, ?_⟩
  · exact (((((O.far (p := ⟨w.heap.size + 1 + 1, 3, none⟩) (by simp) _).far (p := ⟨w.heap.size + 1, 0, none⟩) (by simp) _).far (p := ⟨w.heap.size + 1, 1, none⟩) (by simp) _).far (p := ⟨w.heap.size + 1, 2, none⟩) (by simp) _).far (p := ⟨w.heap.size + 1, 3, none⟩) (by simp) _).base (by omega)
  · exact ((((hB.setCell (p := ⟨w.heap.size + 1 + 1, 3, none⟩) (by simp; omega) _).setCell (p := ⟨w.heap.size + 1, 0, none⟩) (by simp) _).setCell (p := ⟨w.heap.size + 1, 1, none⟩) (by simp) _).setCell (p := ⟨w.heap.size + 1, 2, none⟩) (by simp) _).setCell (p := ⟨w.heap.size + 1, 3, none⟩) (by simp) _

theorem IntsAt.far {w : World} {A : Option Addr} {n c : Nat} {xs : List Int} (h : IntsAt w A n c xs) {p : Addr} (hp : ∀ a, A = some a → a.block ≠ p.block) (u : Value) : IntsAt (w.setCell p u) A n c xs :=
  ⟨Rd.grown h.1 (gset (grefl w (some p.block)) (.inl rfl) u) (fun _ x hx e => hp x hx (by injection e with e; exact e.symm)), h.2⟩
theorem own_blk {w : World} {B e sz n m c : Nat} {A : Option Addr} {xs : List Value} (h : w.ownsRow B e sz (.slice A m c) n xs) {a : Addr} (ha : A = some a) : B ≤ a.block ∧ a.block < w.heap.size := by
  subst ha; exact World.ownsRow.lt h a.block rfl

set_option maxHeartbeats 400000 in
theorem c_eqLeaf_same (x y z : Int) (A A' : Option Addr) (n n' c c' : Nat) (fs : List Int) (w : World) (h : IntsAt w A n c fs) (h' : IntsAt w A' n' c' fs) :
    Calls Try.prog 20 #[.agg #[.int .i64 x, .int .i64 y, .int .i64 z, .slice A n c], .agg #[.int .i64 x, .int .i64 y, .int .i64 z, .slice A' n' c']] w fun e w' => e = .returned (.bool true) ∧ Below w.heap.size w w' := by
  have e0 : (x != x) = false := by simp
  have e1 : (y != y) = false := by simp
  have e2 : (z != z) = false := by simp
  have hB := bmk (bof w (.cells #[.int .i64 x, .int .i64 y, .int .i64 z, .slice A n c] 26)) (.cells #[.int .i64 x, .int .i64 y, .int .i64 z, .slice A' n' c'] 26)
  go_enter Try.func20, Try.ntmps20
  go_wp2_with fail
  refine (c_eqIntS_same A A' n n' c c' fs _ (h.next hB) (h'.next hB)).mono ?_
  rintro e w1 ⟨rfl, hb⟩
  go_wp2
  go_ret
  exact ⟨rfl, bnext hB hb⟩

set_option maxHeartbeats 400000 in
theorem c_sameLeaf_same (x y z : Int) (A A' : Option Addr) (n n' c c' : Nat) (fs : List Int) (w : World) (h : IntsAt w A n c fs) (h' : IntsAt w A' n' c' fs) :
    Calls Try.prog 31 #[.agg #[.int .i64 x, .int .i64 y, .int .i64 z, .slice A n c], .agg #[.int .i64 x, .int .i64 y, .int .i64 z, .slice A' n' c']] w fun e w' => e = .returned (.bool true) ∧ Below w.heap.size w w' := by
  have e0 : (x == x) = true := by simp
  have e1 : (y == y) = true := by simp
  have e2 : (z == z) = true := by simp
  have hB := bmk (bof w (.cells #[.int .i64 x, .int .i64 y, .int .i64 z, .slice A n c] 26)) (.cells #[.int .i64 x, .int .i64 y, .int .i64 z, .slice A' n' c'] 26)
  go_enter Try.func31, Try.ntmps31
  go_wp2_with fail
  refine (c_sameInts_same A A' n n' c c' fs _ (h.next hB) (h'.next hB)).mono ?_
  rintro e w1 ⟨rfl, hb⟩
  go_wp2
  go_ret
  exact ⟨rfl, bnext hB hb⟩

def figCount (ls : List LfV) : Int := (ls.map fun l => (l.figs.length : Int)).sum
theorem figCount_snoc {ls : List LfV} {k : Nat} {l : LfV} (h : ls[k]? = some l) : figCount (ls.take (k + 1)) = figCount (ls.take k) + (l.figs.length : Int) := by
  unfold figCount; rw [take_snoc' h, List.map_append, List.sum_append]; simp
set_option maxHeartbeats 400000 in
theorem c_szLeafS (A : Option Addr) (n c : Nat) (ls : List LfV) (l0 : Int) (w : World) (h : LeavesAt w A n c ls) (hl : 0 ≤ l0 ∧ l0 ≤ 1048576) :
    Calls Try.prog 28 #[.slice A n c, .int .i64 l0] w fun e w' => ∃ r, e = .returned (.int .i64 r) ∧ (r = -1 ∨ (0 ≤ r ∧ r = l0 - n - figCount ls)) ∧ Below w.heap.size w w' := by
  have hbd := h.bd
  have hlen := h.len
  by_cases h0 : (n : Int) ≤ l0
  · go_enter Try.func28, Try.ntmps28
    go_wp2
    go_loopw [1, 5] (fun q i wr => ∃ (k : Nat) (s : Int), k ≤ n ∧ i = .int .i64 k ∧ q = .int .i64 s ∧ Hid (s = l0 - n - figCount (ls.take k)) ∧ 0 ≤ s ∧ s ≤ 1048576 ∧ Below w.heap.size w wr) (fun _ i _ => n - (intOf i).toNat)
    case atStart => exact ⟨0, l0 - n, Nat.zero_le _, rfl, rfl, (show _ = _ by simp [figCount]), by omega, by omega, Below.refl _ _⟩
    case round =>
      obtain ⟨k, s, hk, rfl, rfl, hs, hs0, hs1, hb⟩ := hrel
      by_cases hlt : k < n
      · obtain ⟨b, off, l, rfl, hbl, hx, hf, q0, q1, q2, q3⟩ := (h.next hb).at_ hlt
        have hs2 : s - (l.figs.length : Int) = l0 - n - figCount (ls.take (k + 1)) := by rw [figCount_snoc hx, unhide hs]; omega
        have HS := hide hs2
        have hfb := hf.bd
        clear hs2 hs hx
        by_cases hfit : (l.figs.length : Int) ≤ s
        · go_wp2_with fail
          refine (c_szLeaf _ _ _ l.A l.figs.length l.c s _ (by omega) (by omega)).mono ?_
          rintro e w2 ⟨he, hb2⟩
          rw [if_pos hfit] at he
          subst he
          go_wp2
          go_roundw
          case rel => exact ⟨k + 1, s - l.figs.length, by omega, by go_num, rfl, HS, by omega, by omega, bnext hb hb2⟩
          case measure => simp [intOf]; omega
        · go_wp2_with fail
          refine (c_szLeaf _ _ _ l.A l.figs.length l.c s _ (by omega) (by omega)).mono ?_
          rintro e w2 ⟨he, hb2⟩
          rw [if_neg (by omega)] at he
          subst he
          go_wp2
          go_ret
          exact ⟨_, rfl, .inl rfl, bnext hb hb2⟩
      · have hs2 : s = l0 - n - figCount ls := by have := unhide hs; rwa [List.take_of_length_le (by omega)] at this
        go_wp2
        go_ret
        exact ⟨s, rfl, .inr ⟨hs0, hs2⟩, hb⟩
  · go_enter Try.func28, Try.ntmps28
    go_wp2
    go_ret
    exact ⟨_, rfl, .inl rfl, Below.refl _ _⟩

set_option maxHeartbeats 800000 in
theorem c_toLeafS (A : Option Addr) (n c : Nat) (ls : List LfV) (w : World) (h : LeavesAt w A n c ls) (hn : n ≤ 16777216) (hfn : ∀ l ∈ ls, l.figs.length ≤ 16777216) :
    Calls Try.prog 29 #[.slice A n c] w fun e w' => ∃ A' c' ls', e = .returned (.slice A' n c') ∧ ls'.map LfV.leaf = ls.map LfV.leaf ∧ LeavesAt w' A' n c' ls' ∧ Below w.heap.size w w' := by
  obtain ⟨i0, hi, hz0, hz1, hz2⟩ := info_parts infoLeaf
  have hbd := h.bd
  have hlen := h.len
  have HLEN := hide hlen
  have HFN := hide hfn
  clear hlen hfn
  go_enter Try.func29, Try.ntmps29
  go_wp2_with (at_make; refine wpList_make_full _ rfl _ _ 44 rfl w.heap.size 26 i0 (.agg #[.int .i64 0, .int .i64 0, .int .i64 0, .slice none 0 0]) 4 Try.underlying44 hi hz0 hz1 .i64 .i64 n n n rfl rfl rfl rfl ?b2 ?b3 (Nat.le_refl _) ?_)
  case b2 => rw [hz2]; omega
  case b3 => unfold maxLen; omega
  intro w1 hown hg
  have hb1 : Below w.heap.size w w1 := ⟨hg.os, hg.tape, hg.output, hg.size, fun k hk => hg.block k hk (by simp)⟩
  go_wp2
  go_loopw [4] (fun i wr => ∃ (k : Nat) (ys : List Value) (ls' : List LfV), k ≤ n ∧ i = .int .i64 k ∧ Hid (ys.take (k * 4) = ls'.flatMap LfV.cells) ∧ Hid (ls'.map LfV.leaf = (ls.take k).map LfV.leaf) ∧ wr.ownsRow w.heap.size 26 4 (.slice (some ⟨w.heap.size, 0, none⟩) n n) n ys ∧ (∀ l ∈ ls', LfAt wr l ∧ ∀ a, l.A = some a → a.block ≠ w.heap.size) ∧ Below w.heap.size w wr) (fun i _ => n - (intOf i).toNat)
  case atStart => exact ⟨0, _, [], Nat.zero_le _, rfl, (show _ = _ by simp), (show _ = _ by simp), hown, by simp, hb1⟩
  case round =>
    clear hown hg hb1
    obtain ⟨k, ys, ls', hk, rfl, HYS, HLS, hown, hfs, hb⟩ := hrel
    have hyl : ys.length = n * 4 := hown.1
    by_cases hlt : k < n
    · obtain ⟨b, off, l, rfl, hbl, hr, hf, h0, h1, h2, h3⟩ := (h.next hb).at_ hlt
      have hlf := unhide HFN l (mem_of_get hr)
      have HR := hide hr
      clear hr
      go_wp2_with fail
      refine (c_toLeaf l.from_ l.to_ l.notes l.A l.figs.length l.c l.figs _ hf hlf).mono ?_
      rintro e w2 ⟨A2, c2, rfl, O, hb2⟩
      have hws : w.heap.size < wr.heap.size := (World.ownsRow.lt hown _ rfl).2
      have hown := own_next hown hb2
      have hb := bnext hb hb2
      have hfs : ∀ l ∈ ls', LfAt w2 l ∧ ∀ a, l.A = some a → a.block ≠ w.heap.size := fun l hl => ⟨IntsAt.next (hfs l hl).1 hb2, (hfs l hl).2⟩
      clear h0 h1 h2 h3 hb2
      have y0 := hown.cellAt (k * 4) (by omega)
      have y1 := hown.cellAt (k * 4 + 1) (by omega)
      have y2 := hown.cellAt (k * 4 + 2) (by omega)
      have y3 := hown.cellAt (k * 4 + 3) (by omega)
      rw [List.getElem?_eq_getElem (by omega)] at y0 y1 y2 y3
      have f0 := hown.frozenAt (k * 4)
      have f1 := hown.frozenAt (k * 4 + 1)
      have f2 := hown.frozenAt (k * 4 + 2)
      have f3 := hown.frozenAt (k * 4 + 3)
      have hst := (((hown.stored (k * 4) (.int .i64 l.from_)).1.stored (k * 4 + 1) (.int .i64 l.to_)).1.stored (k * 4 + 2) (.int .i64 l.notes)).1.stored (k * 4 + 3) (.slice A2 l.figs.length c2)
      have hb3 := (((hb.setCell (p := ⟨w.heap.size, k * 4, none⟩) (Nat.le_refl _) (.int .i64 l.from_)).setCell (p := ⟨w.heap.size, k * 4 + 1, none⟩) (Nat.le_refl _) (.int .i64 l.to_)).setCell (p := ⟨w.heap.size, k * 4 + 2, none⟩) (Nat.le_refl _) (.int .i64 l.notes)).setCell (p := ⟨w.heap.size, k * 4 + 3, none⟩) (Nat.le_refl _) (.slice A2 l.figs.length c2)
      have hys2 := take_set4 (ys := ys) (j := k * 4) (by omega) (.int .i64 l.from_) (.int .i64 l.to_) (.int .i64 l.notes) (.slice A2 l.figs.length c2)
      have hls2 : (ls' ++ [(⟨l.from_, l.to_, l.notes, A2, c2, l.figs⟩ : LfV)]).map LfV.leaf = (ls.take (k + 1)).map LfV.leaf := by rw [List.map_append, unhide HLS, take_snoc' (unhide HR), List.map_append]; rfl
      have hfl2 : ys.take (k * 4) ++ [.int .i64 l.from_, .int .i64 l.to_, .int .i64 l.notes, .slice A2 l.figs.length c2] = (ls' ++ [(⟨l.from_, l.to_, l.notes, A2, c2, l.figs⟩ : LfV)]).flatMap LfV.cells := by rw [unhide HYS]; simp [LfV.cells]
      rw [hfl2, show k * 4 + 4 = (k + 1) * 4 from by omega] at hys2
      have hA2 : ∀ a, A2 = some a → a.block ≠ w.heap.size := fun a ha => by have := (own_blk O ha).1; omega
      have hfs2 : ∀ l' ∈ ls' ++ [(⟨l.from_, l.to_, l.notes, A2, c2, l.figs⟩ : LfV)], LfAt ((((w2.setCell ⟨w.heap.size, k * 4, none⟩ (.int .i64 l.from_)).setCell ⟨w.heap.size, k * 4 + 1, none⟩ (.int .i64 l.to_)).setCell ⟨w.heap.size, k * 4 + 2, none⟩ (.int .i64 l.notes)).setCell ⟨w.heap.size, k * 4 + 3, none⟩ (.slice A2 l.figs.length c2)) l' ∧ ∀ a, l'.A = some a → a.block ≠ w.heap.size := by
        have hstep : ∀ l', LfAt w2 l' → (∀ a, l'.A = some a → a.block ≠ w.heap.size) → LfAt ((((w2.setCell ⟨w.heap.size, k * 4, none⟩ (.int .i64 l.from_)).setCell ⟨w.heap.size, k * 4 + 1, none⟩ (.int .i64 l.to_)).setCell ⟨w.heap.size, k * 4 + 2, none⟩ (.int .i64 l.notes)).setCell ⟨w.heap.size, k * 4 + 3, none⟩ (.slice A2 l.figs.length c2)) l' := fun l' h1 h2 =>
          (((IntsAt.far h1 (p := ⟨w.heap.size, k * 4, none⟩) h2 _).far (p := ⟨w.heap.size, k * 4 + 1, none⟩) h2 _).far (p := ⟨w.heap.size, k * 4 + 2, none⟩) h2 _).far (p := ⟨w.heap.size, k * 4 + 3, none⟩) h2 _
        intro l' hl'
        rw [List.mem_append, List.mem_singleton] at hl'
        rcases hl' with hl' | rfl
        · exact ⟨hstep l' (hfs l' hl').1 (hfs l' hl').2, (hfs l' hl').2⟩
        · exact ⟨hstep _ O.at_ hA2, hA2⟩
      have H1 := hide hys2
      have H2 := hide hls2
      have H3 := hide hfs2
      clear hys2 hls2 hfs2 hfl2 hown hb hfs hA2 O hf
      go_wp2
      go_roundw
      case rel => exact ⟨k + 1, _, _, by omega, by go_num, H1, H2, hst.1, unhide H3, hb3⟩
      case measure => simp [intOf]; omega
    · obtain rfl : n = k := by omega
      have hys := unhide HYS
      have hls := unhide HLS
      rw [List.take_of_length_le (by omega)] at hys
      rw [List.take_of_length_le (by rw [unhide HLEN]; omega)] at hls
      subst hys
      have HL := hide hls
      clear hls
      go_wp2
      go_ret
      exact ⟨_, _, ls', rfl, unhide HL, ⟨Sl.of_own hown, fun l hl => (hfs l hl).1⟩, hb⟩

set_option maxHeartbeats 800000 in
theorem c_eqLeafS_same (A A' : Option Addr) (n n' c c' : Nat) (ls ls' : List LfV) (w : World) (h1 : LeavesAt w A n c ls) (h2 : LeavesAt w A' n' c' ls') (he : ls.map LfV.leaf = ls'.map LfV.leaf) :
    Calls Try.prog 30 #[.slice A n c, .slice A' n' c'] w fun e w' => e = .returned (.bool true) ∧ Below w.heap.size w w' := by
  obtain rfl : n = n' := by rw [← h1.len, ← h2.len]; have := congrArg List.length he; simpa using this
  have hbd := h1.bd
  have hbd2 := h2.bd
  have HE := hide he
  clear he
  go_enter Try.func30, Try.ntmps30
  go_wp2
  go_loopw [5] (fun i wr => ∃ k : Nat, k ≤ n ∧ i = .int .i64 k ∧ Below w.heap.size w wr) (fun i _ => n - (intOf i).toNat)
  case atStart => exact ⟨0, Nat.zero_le _, rfl, Below.refl _ _⟩
  case round =>
    obtain ⟨k, hk, rfl, hbel⟩ := hrel
    by_cases hlt : k < n
    · obtain ⟨b, off, ⟨x, y, z, A1, c1, fs⟩, rfl, hb, hx, hf, p0, p1, p2, p3⟩ := (h1.next hbel).at_ hlt
      obtain ⟨b', off', ⟨x', y', z', A2, c2, fs'⟩, rfl, hb', hx', hf', q0, q1, q2, q3⟩ := (h2.next hbel).at_ hlt
      have e : (⟨x, y, z, fs⟩ : Leaf) = ⟨x', y', z', fs'⟩ := by
        have e1 : (ls.map LfV.leaf)[k]? = some ⟨x, y, z, fs⟩ := by rw [List.getElem?_map, hx]; rfl
        have e2 : (ls'.map LfV.leaf)[k]? = some ⟨x', y', z', fs'⟩ := by rw [List.getElem?_map, hx']; rfl
        rw [unhide HE, e2] at e1
        exact (Option.some.inj e1).symm
      injection e with e1 e2 e3 e4
      subst e1 e2 e3 e4
      dsimp only at p0 p1 p2 p3 q0 q1 q2 q3
      clear hx hx'
      go_wp2
      go_region_with (go_at_call 20; refine (c_eqLeaf_same x y z A1 A2 _ _ c1 c2 fs _ (by first | exact hf | exact hf.next (by first | exact bdrewN (Below.refl _ _) _ | exact (Below.refl _ _).drew)) (by first | exact hf' | exact hf'.next (by first | exact bdrewN (Below.refl _ _) _ | exact (Below.refl _ _).drew))).mono ?_; rintro e w2 ⟨rfl, hb2⟩)
      all_goals
        go_wp2
        go_roundw
        case rel => exact ⟨k + 1, by omega, by go_num, bnext hbel.drew (by assumption)⟩
        case measure => simp [intOf]; omega
    · go_wp2
      go_ret
      exact ⟨rfl, hbel⟩
end Go.Proofs.Ytfflnkkhemaanaa
