/- Slices of int: contracts of the small functions of the laws that copy, compare, mark and add them. No condition. -/
import Derived.Test.YtadcbigioldejaaRows
import Derived.Test.YtadcbigioldejaaLib
import Derived.Deep.QuietTactic
import Derived.BigQuiet
namespace Go.Proofs.Ytadcbigioldejaa
open Go.RowKit
set_option linter.unusedVariables false

theorem infoInt : (Try.prog.info? 3).map (fun i => (i.zero, i.size, i.bytes)) = some (some (.int .i64 0), 1, 8) := by kernel_rfl
/-- A slice of int that the call itself made, with its elements. -/
def OwnI (w : World) (B : Nat) (A : Option Addr) (c : Nat) (xs : List Int) : Prop := w.ownsRow B 3 1 (.slice A xs.length c) xs.length (xs.map (Value.int .i64))
section owni
variable {w w' : World} {A : Option Addr} {B c : Nat} {xs : List Int}
theorem OwnI.at_ (h : OwnI w B A c xs) : IntsAt w A xs.length c xs := Sl.of_own h
theorem OwnI.next (h : OwnI w B A c xs) (hb : Below w.heap.size w w') : OwnI w' B A c xs := own_next h hb
theorem OwnI.of {v : Value} {n : Nat} (h : w.ownsRow B 3 1 v n (xs.map (Value.int .i64))) : ∃ A c, v = .slice A xs.length c ∧ n = xs.length ∧ OwnI w B A c xs := by
  have hl : n = xs.length := by have := h.1; simp at this; omega
  subst hl
  obtain ⟨A, c, rfl, _, _, _, _, h'⟩ := own_form h
  exact ⟨A, c, rfl, rfl, h'⟩
theorem OwnI.nil_ (w : World) (B : Nat) : OwnI w B none 0 [] := World.ownsRow_nil w B _ _
end owni

theorem one_new (w : World) (t : TypeId) (a0 : Value) : ∀ j u, [a0][j]? = some u → (w.alloc (.cells #[a0] t)).cell? ((⟨w.heap.size, 0, none⟩ : Addr).add j) = some u := by
  intro j u hj
  match j, hj with
  | 0, hj => simp at hj; subst hj; exact (Blk.new w t #[a0]).cell 0
theorem one_one (x : Int) : ∀ u ∈ [Value.int .i64 x], u.oneCell' = true := by
  intro u hu; simp at hu; subst hu; rfl

set_option maxHeartbeats 400000 in
theorem c_toIntS (A : Option Addr) (n c : Nat) (xs : List Int) (w : World) (h : IntsAt w A n c xs) (hn : n ≤ 16777216) :
    Calls Try.prog 12 #[.slice A n c] w fun e w' => ∃ A' c', e = .returned (.slice A' n c') ∧ OwnI w' w.heap.size A' c' xs ∧ Below w.heap.size w w' := by
  obtain ⟨i0, hi, hz0, hz1, hz2⟩ := info_parts infoInt
  have hbd := h.bd
  have hlen := h.len
  go_enter Try.func12, Try.ntmps12
  go_wp2_with (at_make; refine wpList_make_full _ rfl _ _ 23 rfl w.heap.size 3 i0 (.int .i64 0) 1 Try.underlying23 hi hz0 hz1 .i64 .i64 n n n rfl rfl rfl rfl ?b2 ?b3 (Nat.le_refl _) ?_)
  case b2 => rw [hz2]; omega
  case b3 => unfold maxLen; omega
  intro w1 hown hg
  have hb1 : Below w.heap.size w w1 := ⟨hg.os, hg.tape, hg.output, hg.size, fun k hk => hg.block k hk (by simp)⟩
  go_wp2
  go_loopw [4] (fun i wr => ∃ (k : Nat) (ys : List Value), k ≤ n ∧ i = .int .i64 k ∧ ys.take k = (xs.take k).map (Value.int .i64) ∧ wr.ownsRow w.heap.size 3 1 (.slice (some ⟨w.heap.size, 0, none⟩) n n) n ys ∧ Below w.heap.size w wr) (fun i _ => n - (intOf i).toNat)
  case atStart => exact ⟨0, _, Nat.zero_le _, rfl, rfl, hown, hb1⟩
  case round =>
    clear hown hg hb1
    obtain ⟨k, ys, hk, rfl, hys, hown, hb⟩ := hrel
    have hyl : ys.length = n := by have := hown.1; omega
    by_cases hlt : k < n
    · obtain ⟨b, off, x, rfl, hbl, hx, hc⟩ := (h.next hb).at_ hlt
      have hcy := hown.cellAt k (by omega)
      rw [List.getElem?_eq_getElem (by omega)] at hcy
      have hfy := hown.frozenAt k
      have hst := hown.stored k (.int .i64 x)
      have hb2 := hb.setCell (p := ⟨w.heap.size, k, none⟩) (Nat.le_refl _) (.int .i64 x)
      have hys2 : (ys.set k (.int .i64 x)).take (k + 1) = (xs.take (k + 1)).map (Value.int .i64) := by
        rw [take_set (by omega), hys, map_snoc hx]
      have H := hide hys2
      have H0 := hide hys
      clear hys2 hys
      go_wp2
      go_roundw
      case rel => exact ⟨k + 1, _, by omega, by go_num, unhide H, hst.1, hb2⟩
      case measure => simp [intOf]; omega
    · obtain rfl : n = k := by omega
      have hxs : ys = xs.map (Value.int .i64) := by
        rw [List.take_of_length_le (by omega), List.take_of_length_le (by omega)] at hys; exact hys
      subst hxs
      subst hlen
      go_wp2
      go_ret
      exact ⟨_, _, rfl, hown, hb⟩

set_option maxHeartbeats 400000 in
theorem c_eqIntS (A A' : Option Addr) (n n' c c' : Nat) (xs ys : List Int) (w : World) (h1 : IntsAt w A n c xs) (h2 : IntsAt w A' n' c' ys) :
    Calls Try.prog 14 #[.slice A n c, .slice A' n' c'] w fun e w' => e = .returned (.bool (decide (xs = ys))) ∧ Below w.heap.size w w' := by
  have hl1 := h1.len
  have hl2 := h2.len
  have hbd := h1.bd
  have hbd2 := h2.bd
  by_cases hn : n = n'
  · subst hn
    go_enter Try.func14, Try.ntmps14
    go_wp2
    go_loopw [5] (fun i wr => ∃ k : Nat, k ≤ n ∧ i = .int .i64 k ∧ xs.take k = ys.take k ∧ Below w.heap.size w wr) (fun i _ => n - (intOf i).toNat)
    case atStart => exact ⟨0, Nat.zero_le _, rfl, rfl, Below.refl _ _⟩
    case round =>
      obtain ⟨k, hk, rfl, hv, hbel⟩ := hrel
      have HV := hide hv
      clear hv
      by_cases hlt : k < n
      · obtain ⟨b, off, x, rfl, hb, hx, hc⟩ := (h1.next hbel).at_ hlt
        obtain ⟨b', off', y, rfl, hb', hy, hc'⟩ := (h2.next hbel).at_ hlt
        have HX := hide hx
        have HY := hide hy
        have HL1 := hide hl1
        have HL2 := hide hl2
        clear hx hy hl1 hl2
        by_cases hxy : x = y
        · subst hxy
          have hne : (x != x) = false := by simp
          go_wp2
          go_quiet (fail)
          go_wp2
          go_roundw
          case rel => exact ⟨k + 1, by omega, by go_num, by rw [take_snoc' (unhide HX), take_snoc' (unhide HY), unhide HV], by first | exact bdrewN hbel _ | exact hbel.drew⟩
          case measure => simp [intOf]; omega
        · have hne : (x != y) = true := by simp [hxy]
          go_wp2
          go_quiet (fail)
          go_wp2
          go_ret
          refine ⟨?_, by first | exact bdrewN hbel _ | exact hbel.drew⟩
          have hd : xs ≠ ys := fun e => by subst e; have a := unhide HX; rw [unhide HY] at a; injection a with a; exact hxy a.symm
          simp [hd]
      · have hd : xs = ys := by
          have hv := unhide HV
          rwa [List.take_of_length_le (by omega), List.take_of_length_le (by omega)] at hv
        have HD := hide hd
        clear hd hl1 hl2
        go_wp2
        go_ret
        exact ⟨by simp [unhide HD], hbel⟩
  · have hne : ((n : Int) != (n' : Int)) = true := by simp; omega
    have hd : xs ≠ ys := fun e => hn (by rw [← hl1, ← hl2, e])
    clear hl1 hl2
    go_enter Try.func14, Try.ntmps14
    go_wp2
    go_ret
    exact ⟨by simp [hd], Below.refl _ _⟩

theorem c_eqIntS_same (A A' : Option Addr) (n n' c c' : Nat) (xs : List Int) (w : World) (h1 : IntsAt w A n c xs) (h2 : IntsAt w A' n' c' xs) :
    Calls Try.prog 14 #[.slice A n c, .slice A' n' c'] w fun e w' => e = .returned (.bool true) ∧ Below w.heap.size w w' :=
  (c_eqIntS A A' n n' c c' xs xs w h1 h2).mono fun _ _ ⟨he, hb⟩ => ⟨by rw [he, decide_eq_true rfl], hb⟩
/-- The numbers k, k + 1, .. that a mark leaves. -/
def marks (k : Int) (n : Nat) : List Int := (List.range n).map fun (i : Nat) => k + (i : Int)
theorem marks_len (k : Int) (n : Nat) : (marks k n).length = n := by simp [marks]
theorem marks_get {k : Int} {n i : Nat} (h : i < n) : (marks k n)[i]? = some (k + (i : Int)) := by simp [marks, h]
theorem marks_snoc (k : Int) (n : Nat) : marks k (n + 1) = marks k n ++ [k + (n : Int)] := by simp [marks, List.range_succ]

theorem marks_atIntS {w : World} {B c n : Nat} {A : Option Addr} {k : Int} (h : OwnI w B A c (marks k n)) : IntsAt w A n c (marks k n) := by
  have h' := h.at_; rwa [marks_len] at h'

set_option maxHeartbeats 400000 in
theorem c_markIntS (A : Option Addr) (c B : Nat) (xs : List Int) (k0 : Int) (w : World) (h : OwnI w B A c xs) (h0 : 0 ≤ k0) (h1 : k0 ≤ 1000000000000) (hn : xs.length ≤ 1000000000000) :
    Calls Try.prog 17 #[.slice A xs.length c, .int .i64 k0] w fun e w' => e = .returned (.int .i64 (k0 + xs.length)) ∧ OwnI w' B A c (marks k0 xs.length) ∧ w.grownBy w' (Value.slice A xs.length c).ownBlock := by
  obtain ⟨n, hn'⟩ : ∃ n, xs.length = n := ⟨_, rfl⟩
  unfold OwnI at h
  rw [hn'] at h hn ⊢
  have hA : n = 0 ∨ ∃ g, A = some ⟨g, 0, none⟩ := by
    rcases h.2 with ⟨_, h0⟩ | ⟨g, _, _, hv, _⟩
    · exact .inl h0
    · injection hv with hA; exact .inr ⟨g, hA⟩
  rcases hA with rfl | ⟨g, rfl⟩
  · have hx : xs = [] := List.eq_nil_of_length_eq_zero hn'
    subst hx
    clear hn'
    go_enter Try.func17, Try.ntmps17
    go_wp2
    refine wp_loop_rounds 1 ?_
    rw [rounds_succ]
    go_wp2
    go_ret
    exact ⟨by simp, by unfold OwnI; exact h, ⟨rfl, rfl, rfl, Nat.le_refl _, fun _ _ _ => rfl⟩⟩
  · have hbd := (Sl.of_own h).bd
    clear hn'
    go_enter Try.func17, Try.ntmps17
    go_wp2
    go_loopw [1, 5] (fun q i wr => ∃ (k : Nat) (ys : List Value), k ≤ n ∧ i = .int .i64 k ∧ q = .int .i64 (k0 + k) ∧ ys.take k = (marks k0 k).map (Value.int .i64) ∧ wr.ownsRow B 3 1 (.slice (some ⟨g, 0, none⟩) n c) n ys ∧ w.grownBy wr (some g)) (fun _ i _ => n - (intOf i).toNat)
    case atStart => exact ⟨0, _, Nat.zero_le _, rfl, by simp, by simp [marks], h, ⟨rfl, rfl, rfl, Nat.le_refl _, fun _ _ _ => rfl⟩⟩
    case round =>
      clear h
      obtain ⟨k, ys, hk, rfl, rfl, hys, hown, hg⟩ := hrel
      have hyl : ys.length = n := by have := hown.1; omega
      by_cases hlt : k < n
      · have hcy := hown.cellAt k (by omega)
        rw [List.getElem?_eq_getElem (by omega)] at hcy
        have hfy := hown.frozenAt k
        have hst := hown.stored k (.int .i64 (k0 + k))
        have hgl : w.grownBy (wr.setCell ⟨g, k, none⟩ (.int .i64 (k0 + k))) (some g) :=
          ⟨hg.os, hg.tape, hg.output, by simpa [World.setCell] using hg.size, fun i hi hne => (Below.heap_setCell wr ⟨g, k, none⟩ _ i (fun e => hne (by rw [e]))).trans (hg.block i hi hne)⟩
        have hys2 : (ys.set k (.int .i64 (k0 + k))).take (k + 1) = (marks k0 (k + 1)).map (Value.int .i64) := by
          rw [take_set (by omega), hys, marks_snoc, List.map_append]; rfl
        have H := hide hys2
        clear hys2 hys
        go_wp2
        go_roundw
        case rel => exact ⟨k + 1, _, by omega, by go_num, by go_num, unhide H, hst.1, hgl⟩
        case measure => simp [intOf]; omega
      · obtain rfl : n = k := by omega
        have hm : ys = (marks k0 n).map (Value.int .i64) := by
          rw [List.take_of_length_le (by omega)] at hys; exact hys
        subst hm
        go_wp2
        go_ret
        refine ⟨rfl, ?_, hg⟩
        unfold OwnI
        rw [marks_len]
        exact hown

set_option maxHeartbeats 400000 in
theorem c_heldIntS (A : Option Addr) (c n : Nat) (k0 : Int) (w : World) (h : IntsAt w A n c (marks k0 n)) (h0 : 0 ≤ k0) (h1 : k0 ≤ 1000000000000) (hn : n ≤ 1000000000000) :
    Calls Try.prog 18 #[.slice A n c, .int .i64 k0] w fun e w' => e = .returned (.int .i64 (k0 + n)) ∧ Below w.heap.size w w' := by
  go_enter Try.func18, Try.ntmps18
  go_wp2
  go_loopw [1, 5] (fun q i wr => ∃ (k : Nat), k ≤ n ∧ i = .int .i64 k ∧ q = .int .i64 (k0 + k) ∧ Below w.heap.size w wr) (fun _ i _ => n - (intOf i).toNat)
  case atStart => exact ⟨0, Nat.zero_le _, rfl, by simp, Below.refl _ _⟩
  case round =>
    obtain ⟨k, hk, rfl, rfl, hb⟩ := hrel
    by_cases hlt : k < n
    · obtain ⟨b, off, x, rfl, hbl, hx, hc⟩ := (h.next hb).at_ hlt
      rw [marks_get hlt] at hx
      obtain rfl := Option.some.inj hx
      have hz : (k0 + (k : Int) != k0 + (k : Int)) = false := by simp
      go_wp2
      go_roundw
      case rel => exact ⟨k + 1, by omega, by go_num, by go_num, hb⟩
      case measure => simp [intOf]; omega
    · obtain rfl : n = k := by omega
      go_wp2
      go_ret
      exact ⟨rfl, hb⟩



end Go.Proofs.Ytadcbigioldejaa
