/- The reader that draws numbers out of a code: its contract. No condition. -/
import Derived.Test.YtfflnkkhemaanaaRows
import Derived.Test.YtfflnkkhemaanaaLib
import Derived.Deep.QuietTactic
import Derived.BigQuiet
import Derived.Laws.BitsAllLaws
import Derived.Laws.BitsLemmas
namespace Go.Proofs.Ytfflnkkhemaanaa
open Go.RowKit
set_option linter.unusedVariables false


theorem ofInt_i64 (a : Nat) (ha : a < 9223372036854775808) : (BitVec.ofInt 64 (a : Int)).toNat = a := by
  rw [BitVec.ofInt_natCast, BitVec.toNat_ofNat]; exact Nat.mod_eq_of_lt (by omega)
theorem xor_nonneg (a b : Int) (ha : 0 ≤ a) (hb : 0 ≤ b) (ha2 : a < 9223372036854775808) (hb2 : b < 9223372036854775808) : 0 ≤ bits .xor .i64 a b := by
  obtain ⟨x, rfl⟩ := Int.eq_ofNat_of_zero_le ha
  obtain ⟨y, rfl⟩ := Int.eq_ofNat_of_zero_le hb
  have hx : x ^^^ y < 2 ^ 63 := Nat.xor_lt_two_pow (by omega) (by omega)
  show 0 ≤ IntKind.i64.wrap ((BitVec.ofInt 64 (x : Int) ^^^ BitVec.ofInt 64 (y : Int)).toNat : Int)
  rw [BitVec.toNat_xor, ofInt_i64 x (by omega), ofInt_i64 y (by omega), IntKind.wrap_i64]
  omega

set_option maxHeartbeats 400000 in
theorem c_pick (g : Nat) (A : Option Addr) (n c p : Nat) (xs : List Int) (N : Int) (w : World)
    (h0 : w.cell? ⟨g, 0, none⟩ = some (.slice A n c)) (h1 : w.cell? ⟨g, 1, none⟩ = some (.int .i64 p)) (hf : w.frozen? ⟨g, 1, none⟩ = false)
    (hR : BytesAt w A n xs) (hne : 0 < n → ∀ a, A = some a → a.block ≠ g) (hn : n ≤ 2000) (hp : p ≤ 1000000) :
    Calls Try.prog 37 #[.pointer (some ⟨g, 0, none⟩), .int .i64 N] w fun e w' => ∃ x, e = .returned (.int .i64 x) ∧ 0 ≤ x ∧ (x < N ∨ x = 0) ∧ ∃ d, w' = (w.setCell ⟨g, 1, none⟩ (.int .i64 (p + 1))).drewN d := by
  by_cases hN : N < 1
  · go_enter Try.func37, Try.ntmps37
    go_wp2
    go_ret
    exact ⟨0, rfl, by omega, .inr rfl, 0, rfl⟩
  · by_cases hn0 : n = 0
    · subst hn0
      go_enter Try.func37, Try.ntmps37
      go_wp2
      go_ret
      exact ⟨0, rfl, by omega, .inr rfl, 0, rfl⟩
    · have hN1 : (1 : Int) ≤ N := by omega
      have hz : ((n : Int) == 0) = false := by simp; omega
      by_cases hlt : p < n
      · obtain ⟨b, off, x, rfl, hb, hx0, hx1, hc⟩ := hR.at_ hlt
        have hbg : b ≠ g := hne (by omega) _ rfl
        go_enter Try.func37, Try.ntmps37
        go_wp2
        go_ret
        have hm := Int.emod_nonneg x (b := N) (by omega)
        have hm2 := Int.emod_lt_of_pos x (b := N) (by omega)
        exact ⟨x % N, rfl, hm, .inl hm2, 0, rfl⟩
      · have hm1 : p % n < n := Nat.mod_lt _ (by omega)
        have hm2 : (p * 7 + 3) % n < n := Nat.mod_lt _ (by omega)
        obtain ⟨b, off, x, rfl, hb, hx0, hx1, hc⟩ := hR.at_ hm1
        obtain ⟨b', off', y, he, hb', hy0, hy1, hc'⟩ := hR.at_ hm2
        simp only [Option.some.injEq, Addr.mk.injEq, and_true] at he
        obtain ⟨rfl, rfl⟩ := he
        have hbg : b ≠ g := hne (by omega) _ rfl
        have hn1 : (1 : Int) ≤ (n : Int) := by omega
        have i1 : (0 : Int) ≤ (p : Int) % (n : Int) := by omega
        have i2 : (p : Int) % (n : Int) < (n : Int) := Int.emod_lt_of_pos _ (by omega)
        have i3 : (0 : Int) ≤ ((p : Int) * 7 + 3) % (n : Int) := Int.emod_nonneg _ (by omega)
        have i4 : ((p : Int) * 7 + 3) % (n : Int) < (n : Int) := Int.emod_lt_of_pos _ (by omega)
        have i5 : (0 : Int) ≤ (p : Int) / (n : Int) := Int.ediv_nonneg (by omega) (by omega)
        have i6 : (p : Int) / (n : Int) ≤ 1000000 := Int.le_trans (Int.ediv_le_self _ (by omega)) (by omega)
        have hsg : ∀ s : Int, 0 ≤ s → s ≤ 1000000000 → 0 ≤ (bits .xor .i64 s (s / 64)).tmod N ∧ (bits .xor .i64 s (s / 64)).tmod N < N := fun s h1 h2 => by
          have h3 := xor_nonneg s (s / 64) h1 (by omega) (by omega) (by omega)
          exact ⟨Int.tmod_nonneg _ h3, Int.tmod_lt_of_pos _ (by omega)⟩
        have HS := hide hsg
        clear hsg
        go_enter Try.func37, Try.ntmps37
        go_wp2
        go_quiet (fail)
        go_wp2
        go_ret
        have hz := (unhide HS) (x * 131 + y * 1117 + (p : Int) * 29 + (p : Int) / (n : Int) * 53) (by omega) (by omega)
        exact ⟨_, rfl, hz.1, .inl hz.2, _, rfl⟩

/-! ### what has turned: one block alone -/
section only
variable {a w w' : World} {g : Nat}
theorem gtrans {b c : World} (h : a.grownBy b (some g)) (k : b.grownBy c (some g)) : a.grownBy c (some g) :=
  ⟨k.os.trans h.os, k.tape.trans h.tape, k.output.trans h.output, Nat.le_trans h.size k.size, fun i hi hne => (k.block i (Nat.lt_of_lt_of_le hi h.size) hne).trans (h.block i hi hne)⟩
theorem grefl (a : World) (row : Option Nat) : a.grownBy a row := ⟨rfl, rfl, rfl, Nat.le_refl _, fun _ _ _ => rfl⟩
theorem gdrewN {row : Option Nat} (h : a.grownBy w row) (n : Nat) : a.grownBy (w.drewN n) row := ⟨h.os, h.tape, h.output, h.size, h.block⟩
theorem gdrew {row : Option Nat} (h : a.grownBy w row) : a.grownBy w.drew row := ⟨h.os, h.tape, h.output, h.size, h.block⟩
theorem galloc {row : Option Nat} (h : a.grownBy w row) (o : Obj) : a.grownBy (w.alloc o) row :=
  ⟨h.os, h.tape, h.output, Nat.le_trans h.size (by simp), fun i hi hne => (Below.heap_alloc w o i (Nat.lt_of_lt_of_le hi h.size)).trans (h.block i hi hne)⟩
theorem gset (h : a.grownBy w (some g)) {p : Addr} (hp : p.block = g ∨ a.heap.size ≤ p.block) (u : Value) : a.grownBy (w.setCell p u) (some g) :=
  ⟨h.os, h.tape, h.output, by simpa [World.setCell] using h.size, fun i hi hne => (Below.heap_setCell w p u i (by
    rintro rfl
    rcases hp with hp | hp
    · exact hne (by rw [hp])
    · omega)).trans (h.block i hi hne)⟩
theorem gof {row : Option Nat} (h : Below a.heap.size a w) : a.grownBy w row := ⟨h.os, h.tape, h.output, h.size, fun i hi _ => h.block i hi⟩
/-- An append to a row of the call's own, then, is a change of new blocks alone. -/
theorem gown {row : Option Nat} (h : a.grownBy w row) {r2 : Option Nat} (h2 : w.grownBy w' r2) (hr : ∀ k, r2 = some k → a.heap.size ≤ k) : a.grownBy w' row :=
  ⟨h2.os.trans h.os, h2.tape.trans h.tape, h2.output.trans h.output, Nat.le_trans h.size h2.size, fun i hi hne => (h2.block i (Nat.lt_of_lt_of_le hi h.size) (fun e => by have := hr i e.symm; omega)).trans (h.block i hi hne)⟩
theorem bgrown {B : Nat} (h : Below B a w) (hB : B ≤ g) (h2 : w.grownBy w' (some g)) (hs : B ≤ w.heap.size) : Below B a w' :=
  h.grown h2 hs (fun k e => by injection e with e; omega)
theorem Rd.grown {A : Option Addr} {n sz : Nat} {xs : List Value} {row : Option Nat} (h : Rd w A n sz xs) (hg : w.grownBy w' row) (hne : 0 < n → ∀ x, A = some x → row ≠ some x.block) : Rd w' A n sz xs :=
  ⟨h.len, fun hn => by
    obtain ⟨b, off, e, hl, hc⟩ := h.cells hn
    exact ⟨b, off, e, Nat.lt_of_lt_of_le hl hg.size, fun j u hu => hg.cell (hc j u hu) (fun e' => hne hn _ e e'.symm)⟩⟩
end only

/-- The reader in block g: it reads a code of at most 2000 bytes that lies below it, and has read at most m times. -/
def Rdr (w : World) (g m : Nat) : Prop :=
  ∃ (A : Option Addr) (n c p : Nat) (xs : List Int), w.heap[g]? = some (.cells #[.slice A n c, .int .i64 p] 84 (0, 0)) ∧ BytesAt w A n xs ∧ (0 < n → ∀ x, A = some x → x.block < g) ∧ n ≤ 2000 ∧ p ≤ m
section rdr
variable {w w' : World} {g m : Nat}
theorem Rdr.lt (h : Rdr w g m) : g < w.heap.size := by
  obtain ⟨_, _, _, _, _, h, _⟩ := h
  exact (Array.getElem?_eq_some_iff.1 h).1
theorem Rdr.mono {m' : Nat} (h : Rdr w g m) (hm : m ≤ m') : Rdr w g m' := by
  obtain ⟨A, n, c, p, xs, h1, h2, h3, h4, h5⟩ := h
  exact ⟨A, n, c, p, xs, h1, h2, h3, h4, by omega⟩
theorem Rdr.keep (h : Rdr w g m) {row : Option Nat} (hg : w.grownBy w' row) (hr : ∀ k, row = some k → g < k) : Rdr w' g m := by
  have hlt := h.lt
  obtain ⟨A, n, c, p, xs, h1, h2, h3, h4, h5⟩ := h
  exact ⟨A, n, c, p, xs, by rw [hg.block g hlt (fun e => by have := hr g e.symm; omega)]; exact h1, ⟨h2.1.grown hg (fun h0 x hx e => by have := h3 h0 x hx; have := hr _ e; omega), h2.2⟩, h3, h4, h5⟩
theorem Rdr.alloc (h : Rdr w g m) (o : Obj) : Rdr (w.alloc o) g m := h.keep (World.grownBy_alloc w o none) (by simp)
theorem Rdr.next (h : Rdr w g m) (hb : Below w.heap.size w w') : Rdr w' g m := h.keep (row := none) (gof hb) (by simp)
theorem Rdr.drew (h : Rdr w g m) : Rdr w.drew g m := h.keep (row := none) (gdrew (grefl _ _)) (by simp)
theorem Rdr.set (h : Rdr w g m) {p : Addr} (hp : g < p.block) (u : Value) : Rdr (w.setCell p u) g m :=
  h.keep (row := some p.block) ⟨rfl, rfl, rfl, by simp [World.setCell], fun i hi hne => Below.heap_setCell w p u i (fun e => hne (by rw [e]))⟩ (by intro k e; injection e with e; omega)
end rdr

set_option maxHeartbeats 400000 in
theorem r_pick (g m : Nat) (N : Int) (w : World) (h : Rdr w g m) (hm : m ≤ 1000000) :
    Calls Try.prog 37 #[.pointer (some ⟨g, 0, none⟩), .int .i64 N] w fun e w' => ∃ x : Nat, e = .returned (.int .i64 x) ∧ ((x : Int) < N ∨ x = 0) ∧ Rdr w' g (m + 1) ∧ w.grownBy w' (some g) := by
  obtain ⟨A, n, c, p, xs, h1, h2, h3, h4, h5⟩ := h
  have c0 := cell_of_row w g 0 _ _ _ h1
  have c1 := cell_of_row w g 1 _ _ _ h1
  refine (c_pick g A n c p xs N w c0 c1 (frozen_of_row w g 1 _ _ h1) h2 (fun h0 a ha e => by have := h3 h0 a ha; omega) h4 (by omega)).mono ?_
  rintro e w' ⟨x, rfl, hx0, hx1, d, rfl⟩
  obtain ⟨y, rfl⟩ := Int.eq_ofNat_of_zero_le hx0
  have hg : w.grownBy ((w.setCell ⟨g, 1, none⟩ (.int .i64 (p + 1))).drewN d) (some g) := gdrewN (gset (grefl _ _) (.inl rfl) _) d
  refine ⟨y, rfl, by omega, ⟨A, n, c, p + 1, xs, ?_, ⟨h2.1.grown hg (fun h0 x hx e => by have := h3 h0 x hx; injection e with e; omega), h2.2⟩, h3, h4, by omega⟩, hg⟩
  show (w.setCell ⟨g, 1, none⟩ (.int .i64 (p + 1))).heap[g]? = _
  rw [heap_setCell_same w g 1 _ _ _ h1]
  simp

set_option maxHeartbeats 400000 in
theorem r_odd (g m : Nat) (N : Nat) (w : World) (h : Rdr w g m) (hm : m ≤ 1000000) (hN : N ≤ 1000000) :
    Calls Try.prog 38 #[.pointer (some ⟨g, 0, none⟩), .int .i64 N] w fun e w' => ∃ b : Bool, e = .returned (.bool b) ∧ (N = 0 → b = false) ∧ Rdr w' g (m + 1) ∧ w.grownBy w' (some g) := by
  by_cases h0 : N = 0
  · subst h0
    go_enter Try.func38, Try.ntmps38
    go_wp2
    go_ret
    exact ⟨_, rfl, fun _ => rfl, h.mono (by omega), grefl _ _⟩
  · have hp : (0 : Int) < (N : Int) := by omega
    go_enter Try.func38, Try.ntmps38
    go_wp2_with (go_at_call 37; refine (r_pick g m _ _ h hm).mono ?_; rintro e w' ⟨x, rfl, hx, hr, hg⟩)
    go_ret
    exact ⟨_, rfl, fun e => absurd e h0, hr, hg⟩
end Go.Proofs.Ytfflnkkhemaanaa
