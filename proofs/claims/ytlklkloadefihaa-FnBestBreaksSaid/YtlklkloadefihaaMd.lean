/- The reader that draws numbers out of a code: its contract. · The reader at its beginning. · A region that draws its order, by a law: what each operation leaves is known of whatever order (a property of the value, in whatever later world). · Regions of a draw: what each operation leaves is a number between bounds, an array of such numbers, or an address of one. · Regions of a draw that end with a write into a glue. · Small functions of the reference on letters and words: what is known of their results. · Slices of strings: what is read and what the call owns. · Words and patterns of the reference, signs and widths of words: what is known of their results. · Slices of the call's own in a draw: numbers, texts, items; what is kept over a draw; a slice that keeps its length. No condition. -/
import Derived.Test.YtlklkloadefihaaRows
import Derived.Test.YtlklkloadefihaaMa
import Derived.Deep.QuietTactic
import Derived.BigQuiet
import Derived.Laws.BitsAllLaws
import Derived.Laws.BitsLemmas
import Derived.Orders
import Derived.RegionTactic
import Derived.Great.BuildSlice
import Derived.IntWalk
import Derived.OwnWalk
import Derived.Maps.AppendAt
import Derived.Deep.RegionLaw
namespace Go.Proofs.Ytlklkloadefihaa
open Go.RowKit
set_option linter.unusedVariables false


theorem ofInt_i64 (a : Nat) (ha : a < 9223372036854775808) : (BitVec.ofInt 64 (a : Int)).toNat = a := by
  rw [BitVec.ofInt_natCast, BitVec.toNat_ofNat]; exact Nat.mod_eq_of_lt (by omega)
theorem xor_nonneg (a b : Int) (ha : 0 ≤ a) (hb : 0 ≤ b) (ha2 : a < 9223372036854775808) (hb2 : b < 9223372036854775808) : 0 ≤ bits .xor .i64 a b := by
  obtain ⟨x, rfl⟩ := Int.eq_ofNat_of_zero_le ha
  obtain ⟨y, rfl⟩ := Int.eq_ofNat_of_zero_le hb
  have hx : x ^^^ y < 2 ^ 63 := Nat.xor_lt_two_pow (by omega) (by omega)
  show 0 ≤ IntKind.i64.wrap ((BitVec.ofInt 64 (x : Int) ^^^ BitVec.ofInt 64 (y : Int)).toNat : Int)
  rw [BitVec.toNat_xor, ofInt_i64 x (by omega), ofInt_i64 y (by omega), IntKind.wrap_i64]
  omega

set_option maxHeartbeats 400000 in
theorem c_pick (g : Nat) (A : Option Addr) (n c p : Nat) (xs : List Int) (N : Int) (w : World)
    (h0 : w.cell? ⟨g, 0, none⟩ = some (.slice A n c)) (h1 : w.cell? ⟨g, 1, none⟩ = some (.int .i64 p)) (hf : w.frozen? ⟨g, 1, none⟩ = false)
    (hR : BytesAt w A n xs) (hne : 0 < n → ∀ a, A = some a → a.block ≠ g) (hn : n ≤ 2000) (hp : p ≤ 1000000) :
    Calls Try.prog 43 #[.pointer (some ⟨g, 0, none⟩), .int .i64 N] w fun e w' => ∃ x, e = .returned (.int .i64 x) ∧ 0 ≤ x ∧ (x < N ∨ x = 0) ∧ ∃ d, w' = (w.setCell ⟨g, 1, none⟩ (.int .i64 (p + 1))).drewN d := by
  by_cases hN : N < 1
  · go_enter Try.func43, Try.ntmps43
    go_wp2
    go_ret
    exact ⟨0, rfl, by omega, .inr rfl, 0, rfl⟩
  · by_cases hn0 : n = 0
    · subst hn0
      go_enter Try.func43, Try.ntmps43
      go_wp2
      go_ret
      exact ⟨0, rfl, by omega, .inr rfl, 0, rfl⟩
    · have hN1 : (1 : Int) ≤ N := by omega
      have hz : ((n : Int) == 0) = false := by simp; omega
      by_cases hlt : p < n
      · obtain ⟨b, off, x, rfl, hb, hx0, hx1, hc⟩ := hR.at_ hlt
        have hbg : b ≠ g := hne (by omega) _ rfl
        go_enter Try.func43, Try.ntmps43
        go_wp2
        go_ret
        have hm := Int.emod_nonneg x (b := N) (by omega)
        have hm2 := Int.emod_lt_of_pos x (b := N) (by omega)
        exact ⟨x % N, rfl, hm, .inl hm2, 0, rfl⟩
      · have hm1 : p % n < n := Nat.mod_lt _ (by omega)
        have hm2 : (p * 7 + 3) % n < n := Nat.mod_lt _ (by omega)
        obtain ⟨b, off, x, rfl, hb, hx0, hx1, hc⟩ := hR.at_ hm1
        obtain ⟨b', off', y, he, hb', hy0, hy1, hc'⟩ := hR.at_ hm2
        simp only [Option.some.injEq, Addr.mk.injEq, and_true] at he
        obtain ⟨rfl, rfl⟩ := he
        have hbg : b ≠ g := hne (by omega) _ rfl
        have hn1 : (1 : Int) ≤ (n : Int) := by omega
        have i1 : (0 : Int) ≤ (p : Int) % (n : Int) := by omega
        have i2 : (p : Int) % (n : Int) < (n : Int) := Int.emod_lt_of_pos _ (by omega)
        have i3 : (0 : Int) ≤ ((p : Int) * 7 + 3) % (n : Int) := Int.emod_nonneg _ (by omega)
        have i4 : ((p : Int) * 7 + 3) % (n : Int) < (n : Int) := Int.emod_lt_of_pos _ (by omega)
        have i5 : (0 : Int) ≤ (p : Int) / (n : Int) := Int.ediv_nonneg (by omega) (by omega)
        have i6 : (p : Int) / (n : Int) ≤ 1000000 := Int.le_trans (Int.ediv_le_self _ (by omega)) (by omega)
        have hsg : ∀ s : Int, 0 ≤ s → s ≤ 1000000000 → 0 ≤ (bits .xor .i64 s (s / 64)).tmod N ∧ (bits .xor .i64 s (s / 64)).tmod N < N := fun s h1 h2 => by
          have h3 := xor_nonneg s (s / 64) h1 (by omega) (by omega) (by omega)
          exact ⟨Int.tmod_nonneg _ h3, Int.tmod_lt_of_pos _ (by omega)⟩
        have HS := hide hsg
        clear hsg
        go_enter Try.func43, Try.ntmps43
        go_wp2
        go_quiet (fail)
        go_wp2
        go_ret
        have hz := (unhide HS) (x * 131 + y * 1117 + (p : Int) * 29 + (p : Int) / (n : Int) * 53) (by omega) (by omega)
        exact ⟨_, rfl, hz.1, .inl hz.2, _, rfl⟩

/-! ### what has turned: one block alone -/
section only
variable {a w w' : World} {g : Nat}
theorem gtrans {b c : World} (h : a.grownBy b (some g)) (k : b.grownBy c (some g)) : a.grownBy c (some g) :=
  ⟨k.os.trans h.os, k.tape.trans h.tape, k.output.trans h.output, Nat.le_trans h.size k.size, fun i hi hne => (k.block i (Nat.lt_of_lt_of_le hi h.size) hne).trans (h.block i hi hne)⟩
theorem grefl (a : World) (row : Option Nat) : a.grownBy a row := ⟨rfl, rfl, rfl, Nat.le_refl _, fun _ _ _ => rfl⟩
theorem gdrewN {row : Option Nat} (h : a.grownBy w row) (n : Nat) : a.grownBy (w.drewN n) row := ⟨h.os, h.tape, h.output, h.size, h.block⟩
theorem gdrew {row : Option Nat} (h : a.grownBy w row) : a.grownBy w.drew row := ⟨h.os, h.tape, h.output, h.size, h.block⟩
theorem galloc {row : Option Nat} (h : a.grownBy w row) (o : Obj) : a.grownBy (w.alloc o) row :=
  ⟨h.os, h.tape, h.output, Nat.le_trans h.size (by simp), fun i hi hne => (Below.heap_alloc w o i (Nat.lt_of_lt_of_le hi h.size)).trans (h.block i hi hne)⟩
theorem gset (h : a.grownBy w (some g)) {p : Addr} (hp : p.block = g ∨ a.heap.size ≤ p.block) (u : Value) : a.grownBy (w.setCell p u) (some g) :=
  ⟨h.os, h.tape, h.output, by simpa [World.setCell] using h.size, fun i hi hne => (Below.heap_setCell w p u i (by
    rintro rfl
    rcases hp with hp | hp
    · exact hne (by rw [hp])
    · omega)).trans (h.block i hi hne)⟩
theorem gof {row : Option Nat} (h : Below a.heap.size a w) : a.grownBy w row := ⟨h.os, h.tape, h.output, h.size, fun i hi _ => h.block i hi⟩
/-- An append to a row of the call's own, then, is a change of new blocks alone. -/
theorem gown {row : Option Nat} (h : a.grownBy w row) {r2 : Option Nat} (h2 : w.grownBy w' r2) (hr : ∀ k, r2 = some k → a.heap.size ≤ k) : a.grownBy w' row :=
  ⟨h2.os.trans h.os, h2.tape.trans h.tape, h2.output.trans h.output, Nat.le_trans h.size h2.size, fun i hi hne => (h2.block i (Nat.lt_of_lt_of_le hi h.size) (fun e => by have := hr i e.symm; omega)).trans (h.block i hi hne)⟩
theorem bgrown {B : Nat} (h : Below B a w) (hB : B ≤ g) (h2 : w.grownBy w' (some g)) (hs : B ≤ w.heap.size) : Below B a w' :=
  h.grown h2 hs (fun k e => by injection e with e; omega)
theorem Rd.grown {A : Option Addr} {n sz : Nat} {xs : List Value} {row : Option Nat} (h : Rd w A n sz xs) (hg : w.grownBy w' row) (hne : 0 < n → ∀ x, A = some x → row ≠ some x.block) : Rd w' A n sz xs :=
  ⟨h.len, fun hn => by
    obtain ⟨b, off, e, hl, hc⟩ := h.cells hn
    exact ⟨b, off, e, Nat.lt_of_lt_of_le hl hg.size, fun j u hu => hg.cell (hc j u hu) (fun e' => hne hn _ e e'.symm)⟩⟩
end only

/-- The reader in block g: it reads a code of at most 2000 bytes that lies below it, and has read at most m times. -/
def Rdr (w : World) (g m : Nat) : Prop :=
  ∃ (A : Option Addr) (n c p : Nat) (xs : List Int), w.heap[g]? = some (.cells #[.slice A n c, .int .i64 p] 91 (0, 0)) ∧ BytesAt w A n xs ∧ (0 < n → ∀ x, A = some x → x.block < g) ∧ n ≤ 2000 ∧ p ≤ m
section rdr
variable {w w' : World} {g m : Nat}
theorem Rdr.lt (h : Rdr w g m) : g < w.heap.size := by
  obtain ⟨_, _, _, _, _, h, _⟩ := h
  exact (Array.getElem?_eq_some_iff.1 h).1
theorem Rdr.mono {m' : Nat} (h : Rdr w g m) (hm : m ≤ m') : Rdr w g m' := by
  obtain ⟨A, n, c, p, xs, h1, h2, h3, h4, h5⟩ := h
  exact ⟨A, n, c, p, xs, h1, h2, h3, h4, by omega⟩
theorem Rdr.keep (h : Rdr w g m) {row : Option Nat} (hg : w.grownBy w' row) (hr : ∀ k, row = some k → g < k) : Rdr w' g m := by
  have hlt := h.lt
  obtain ⟨A, n, c, p, xs, h1, h2, h3, h4, h5⟩ := h
  exact ⟨A, n, c, p, xs, by rw [hg.block g hlt (fun e => by have := hr g e.symm; omega)]; exact h1, ⟨h2.1.grown hg (fun h0 x hx e => by have := h3 h0 x hx; have := hr _ e; omega), h2.2⟩, h3, h4, h5⟩
theorem Rdr.alloc (h : Rdr w g m) (o : Obj) : Rdr (w.alloc o) g m := h.keep (World.grownBy_alloc w o none) (by simp)
theorem Rdr.next (h : Rdr w g m) (hb : Below w.heap.size w w') : Rdr w' g m := h.keep (row := none) (gof hb) (by simp)
theorem Rdr.drew (h : Rdr w g m) : Rdr w.drew g m := h.keep (row := none) (gdrew (grefl _ _)) (by simp)
theorem Rdr.set (h : Rdr w g m) {p : Addr} (hp : g < p.block) (u : Value) : Rdr (w.setCell p u) g m :=
  h.keep (row := some p.block) ⟨rfl, rfl, rfl, by simp [World.setCell], fun i hi hne => Below.heap_setCell w p u i (fun e => hne (by rw [e]))⟩ (by intro k e; injection e with e; omega)
end rdr

set_option maxHeartbeats 400000 in
theorem r_pick (g m : Nat) (N : Int) (w : World) (h : Rdr w g m) (hm : m ≤ 1000000) :
    Calls Try.prog 43 #[.pointer (some ⟨g, 0, none⟩), .int .i64 N] w fun e w' => ∃ x : Nat, e = .returned (.int .i64 x) ∧ ((x : Int) < N ∨ x = 0) ∧ Rdr w' g (m + 1) ∧ w.grownBy w' (some g) := by
  obtain ⟨A, n, c, p, xs, h1, h2, h3, h4, h5⟩ := h
  have c0 := cell_of_row w g 0 _ _ _ h1
  have c1 := cell_of_row w g 1 _ _ _ h1
  refine (c_pick g A n c p xs N w c0 c1 (frozen_of_row w g 1 _ _ h1) h2 (fun h0 a ha e => by have := h3 h0 a ha; omega) h4 (by omega)).mono ?_
  rintro e w' ⟨x, rfl, hx0, hx1, d, rfl⟩
  obtain ⟨y, rfl⟩ := Int.eq_ofNat_of_zero_le hx0
  have hg : w.grownBy ((w.setCell ⟨g, 1, none⟩ (.int .i64 (p + 1))).drewN d) (some g) := gdrewN (gset (grefl _ _) (.inl rfl) _) d
  refine ⟨y, rfl, by omega, ⟨A, n, c, p + 1, xs, ?_, ⟨h2.1.grown hg (fun h0 x hx e => by have := h3 h0 x hx; injection e with e; omega), h2.2⟩, h3, h4, by omega⟩, hg⟩
  show (w.setCell ⟨g, 1, none⟩ (.int .i64 (p + 1))).heap[g]? = _
  rw [heap_setCell_same w g 1 _ _ _ h1]
  simp

set_option maxHeartbeats 400000 in
theorem r_odd (g m : Nat) (N : Nat) (w : World) (h : Rdr w g m) (hm : m ≤ 1000000) (hN : N ≤ 1000000) :
    Calls Try.prog 61 #[.pointer (some ⟨g, 0, none⟩), .int .i64 N] w fun e w' => ∃ b : Bool, e = .returned (.bool b) ∧ (N = 0 → b = false) ∧ Rdr w' g (m + 1) ∧ w.grownBy w' (some g) := by
  by_cases h0 : N = 0
  · subst h0
    go_enter Try.func61, Try.ntmps61
    go_wp2
    go_ret
    exact ⟨_, rfl, fun _ => rfl, h.mono (by omega), grefl _ _⟩
  · have hp : (0 : Int) < (N : Int) := by omega
    go_enter Try.func61, Try.ntmps61
    go_wp2_with (go_at_call 43; refine (r_pick g m _ _ h hm).mono ?_; rintro e w' ⟨x, rfl, hx, hr, hg⟩)
    go_ret
    exact ⟨_, rfl, fun e => absurd e h0, hr, hg⟩
end Go.Proofs.Ytlklkloadefihaa

namespace Go.Proofs.Ytlklkloadefihaa
open Go.RowKit
set_option linter.unusedVariables false
set_option maxHeartbeats 400000 in
theorem r_open (A : Option Addr) (n c : Nat) (xs : List Int) (w : World) (h : CodeAt w A n c xs) :
    Calls Try.prog 39 #[.slice A n c] w fun e w' => ∃ g, e = .returned (.pointer (some ⟨g, 0, none⟩)) ∧ w.heap.size ≤ g ∧ Rdr w' g 0 ∧ Below w.heap.size w w' := by
  obtain ⟨hb, hnc, hcm⟩ := h
  unfold maxLen at hcm
  have hA : 0 < n → ∀ x, A = some x → x.block < w.heap.size := fun h0 x hx => by
    obtain ⟨b, off, e, hl, _⟩ := hb.1.cells h0
    rw [e] at hx; injection hx with hx; subst hx; exact hl
  by_cases h2 : 2000 < n
  · go_enter Try.func39, Try.ntmps39
    go_wp2
    go_ret
    have ht := hb.1.take (k := 2000) (by omega)
    rw [← List.map_take] at ht
    refine ⟨_, rfl, Nat.le_refl _, ⟨A, 2000, c, 0, xs.take 2000, heap_alloc_new _ _, ⟨by simpa using ht.next (bof _ _), fun x hx => hb.2 x (List.mem_of_mem_take hx)⟩, fun _ => hA (by omega), by omega, by omega⟩, bof _ _⟩
  · go_enter Try.func39, Try.ntmps39
    go_wp2
    go_ret
    refine ⟨_, rfl, Nat.le_refl _, ⟨A, n, c, 0, xs, heap_alloc_new _ _, ⟨hb.1.next (bof _ _), hb.2⟩, hA, by omega, by omega⟩, bof _ _⟩
/-- What is drawn from a new reader has turned nothing that was there. -/
theorem r_fresh {w w1 w2 : World} {g : Nat} (hg : w.heap.size ≤ g) (hb : Below w.heap.size w w1) (h2 : w1.grownBy w2 (some g)) : Below w.heap.size w w2 := bgrown hb hg h2 hb.size
end Go.Proofs.Ytlklkloadefihaa

namespace Go.Proofs.Ytlklkloadefihaa
set_option linter.unusedVariables false
section
variable {P : Program}

def putL : List Oper → (Nat → Value) → Nat → Act → Act
  | [], _, _, a => a
  | o :: l, v, k, a => putL l v (k + 1) (a.put o.dst (v k))
def putS : List Oper → (Nat → Value) → (Nat → Bool) → Nat → Act → Act
  | [], _, _, _, a => a
  | o :: l, v, d, k, a => putS l v d (k + 1) (if d k then a.put o.dst (v k) else a)
theorem putS_all : ∀ (l : List Oper) (v : Nat → Value) (d : Nat → Bool) (k : Nat) (a : Act), (∀ j, j < l.length → d (k + j) = true) → putS l v d k a = putL l v k a
  | [], _, _, _, _, _ => rfl
  | o :: l, v, d, k, a, h => by
    have h0 := h 0 (by simp)
    rw [Nat.add_zero] at h0
    rw [putS, putL, if_pos h0]
    exact putS_all l v d (k + 1) _ (fun j hj => by have := h (j + 1) (by simpa using hj); rwa [show k + 1 + j = k + (j + 1) by omega])
theorem putS_none : ∀ (l : List Oper) (v : Nat → Value) (d : Nat → Bool) (k : Nat) (a : Act), (∀ j, j < l.length → d (k + j) = false) → putS l v d k a = a
  | [], _, _, _, _, _ => rfl
  | o :: l, v, d, k, a, h => by
    have h0 := h 0 (by simp)
    rw [Nat.add_zero] at h0
    rw [putS, if_neg (by simp [h0])]
    exact putS_none l v d (k + 1) _ (fun j hj => by have := h (j + 1) (by simpa using hj); rwa [show k + 1 + j = k + (j + 1) by omega])
theorem putS_congr : ∀ (l : List Oper) (v v' : Nat → Value) (d d' : Nat → Bool) (k : Nat) (a : Act), (∀ j, k ≤ j → v j = v' j ∧ d j = d' j) → putS l v d k a = putS l v' d' k a
  | [], _, _, _, _, _, _, _ => rfl
  | o :: l, v, v', d, d', k, a, h => by
    obtain ⟨h1, h2⟩ := h k (Nat.le_refl _)
    rw [putS, putS, h1, h2]
    exact putS_congr l v v' d d' (k + 1) _ (fun j hj => h j (by omega))
theorem putS_put : ∀ (l : List Oper) (v : Nat → Value) (d : Nat → Bool) (k : Nat) (a : Act) (x : Option Tmp) (u : Value), (∀ p ∈ l, ∀ t, x = some t → p.dst ≠ some t) → (putS l v d k a).put x u = putS l v d k (a.put x u)
  | [], _, _, _, _, _, _, _ => rfl
  | o :: l, v, d, k, a, x, u, h => by
    rw [putS, putS, putS_put l v d (k + 1) _ x u (fun p hp => h p (by simp [hp]))]
    congr 1
    split
    · exact (Act.put_comm a u (v k) (fun t ht => h o (by simp) t ht)).symm
    · rfl
def updV (v : Nat → Value) (i : Nat) (u : Value) : Nat → Value := fun j => if j = i then u else v j
def updB (d : Nat → Bool) (i : Nat) : Nat → Bool := fun j => if j = i then true else d j
theorem putS_one : ∀ (l : List Oper) (v : Nat → Value) (d : Nat → Bool) (k m : Nat) (a : Act) (o : Oper) (u : Value), l[m]? = some o → d (k + m) = false →
    (∀ j p, l[j]? = some p → j ≠ m → ∀ t, o.dst = some t → p.dst ≠ some t) → (putS l v d k a).put o.dst u = putS l (updV v (k + m) u) (updB d (k + m)) k a
  | [], _, _, _, _, _, _, _, h, _, _ => by simp at h
  | q :: l, v, d, k, 0, a, o, u, h, hd, hx => by
    simp at h; subst h
    rw [Nat.add_zero] at hd ⊢
    rw [putS, putS, if_neg (by simp [hd]), if_pos (by simp [updB]), putS_put l v d (k + 1) a q.dst u (fun p hp t ht => by
      obtain ⟨j, hj⟩ := List.getElem?_of_mem hp
      exact hx (j + 1) p (by simpa using hj) (by omega) t ht)]
    rw [show updV v k u k = u by simp [updV]]
    exact putS_congr l _ _ _ _ _ _ (fun j hj => by simp [updV, updB, show j ≠ k by omega])
  | q :: l, v, d, k, m + 1, a, o, u, h, hd, hx => by
    rw [putS, putS, putS_one l v d (k + 1) m _ o u (by simpa using h) (by rwa [show k + 1 + m = k + (m + 1) by omega]) (fun j p hj hm t ht => hx (j + 1) p (by simpa using hj) (by omega) t ht)]
    rw [show k + 1 + m = k + (m + 1) by omega, show updV v (k + (m + 1)) u k = v k by simp [updV], show updB d (k + (m + 1)) k = d k by simp [updB]]
theorem putS_tmps (t : Nat) : ∀ (l : List Oper) (v : Nat → Value) (d : Nat → Bool) (k : Nat) (a a' : Act), (∀ j p, l[j]? = some p → p.dst = some t → d (k + j) = true) →
    a.tmps[t]? = a'.tmps[t]? → a.tmps.size = a'.tmps.size → (putS l v d k a).tmps[t]? = (putL l v k a').tmps[t]?
  | [], _, _, _, _, _, _, h, _ => h
  | o :: l, v, d, k, a, a', hd, h, hz => by
    rw [putS, putL]
    refine putS_tmps t l v d (k + 1) _ _ (fun j p hj hp => by have := hd (j + 1) p (by simpa using hj) hp; rwa [show k + 1 + j = k + (j + 1) by omega]) ?_ ?_
    · have h0 := hd 0 o (by simp)
      rw [Nat.add_zero] at h0
      cases ho : o.dst with
      | none => split <;> simpa [Act.put] using h
      | some x =>
        by_cases hx : x = t
        · subst hx
          rw [if_pos (h0 ho)]
          simp [Act.put, Array.getElem?_setIfInBounds, hz]
        · split <;> simp [Act.put, Array.getElem?_setIfInBounds_ne hx, h]
    · cases ho : o.dst with
      | none => split <;> simpa [Act.put] using hz
      | some x => split <;> simp [Act.put, hz]
theorem putS_size : ∀ (l : List Oper) (v : Nat → Value) (d : Nat → Bool) (k : Nat) (a : Act), (putS l v d k a).tmps.size = a.tmps.size ∧ (putS l v d k a).defers = a.defers
  | [], _, _, _, _ => ⟨rfl, rfl⟩
  | o :: l, v, d, k, a => by
    rw [putS]
    obtain ⟨h1, h2⟩ := putS_size l v d (k + 1) (if d k = true then a.put o.dst (v k) else a)
    rw [h1, h2]
    split
    · cases o.dst <;> simp [Act.put]
    · exact ⟨rfl, rfl⟩
theorem putL_eq (l : List Oper) (v : Nat → Value) (k : Nat) (a : Act) : putL l v k a = putS l v (fun _ => true) k a := (putS_all l v _ k a (fun _ _ => rfl)).symm

/-- The Bool that the law asks: every operation waits for those whose temporaries it looks at; they come before it; each writes a temporary of its own. -/
def tyOK (md : Region.Mode) (ops : Array Oper) : Bool :=
  Region.noSelect ops && (List.range ops.size).all fun i =>
    match ops[i]? with
    | none => true
    | some o =>
      (o.after.all fun e => !Region.binds md e || decide (e.on < i)) &&
      ((o.looksAt ops).all fun t => (List.range ops.size).all fun j =>
        match ops[j]? with
        | none => true
        | some p => p.dst != some t || o.after.any fun e => Region.binds md e && e.on == j) &&
      ((List.range ops.size).all fun j =>
        match ops[j]? with
        | none => true
        | some p => j == i || p.dst == none || p.dst != o.dst)
theorem tyOK_spec {md : Region.Mode} {ops : Array Oper} (h : tyOK md ops = true) : Region.noSelect ops = true ∧ ∀ i o, ops[i]? = some o →
    (∀ e ∈ o.after, Region.binds md e = true → e.on < i) ∧ (∀ t ∈ o.looksAt ops, ∀ j p, ops[j]? = some p → p.dst = some t → ∃ e ∈ o.after, Region.binds md e = true ∧ e.on = j) ∧
    (∀ j p, ops[j]? = some p → j ≠ i → ∀ t, o.dst = some t → p.dst ≠ some t) := by
  unfold tyOK at h
  rw [Bool.and_eq_true] at h
  obtain ⟨h1, h2⟩ := h
  refine ⟨h1, fun i o hi => ?_⟩
  have hil : i < ops.size := (Array.getElem?_eq_some_iff.1 hi).1
  have h3 := (List.all_eq_true.1 h2) i (List.mem_range.2 hil)
  simp only [hi, Bool.and_eq_true] at h3
  obtain ⟨⟨h3, h4⟩, h5⟩ := h3
  refine ⟨fun e he hb => ?_, fun t ht j p hj hp => ?_, fun j p hj hne t ht hpt => ?_⟩
  · have := (Array.all_eq_true_iff_forall_mem.1 h3) e he
    simpa [hb] using this
  · have hjl : j < ops.size := (Array.getElem?_eq_some_iff.1 hj).1
    have h6 := (List.all_eq_true.1 ((List.all_eq_true.1 h4) t ht)) j (List.mem_range.2 hjl)
    simp only [hj, hp, bne_self_eq_false, Bool.false_or] at h6
    obtain ⟨q, hq, hb⟩ := Array.any_eq_true.1 h6
    obtain ⟨e, he, hb⟩ : ∃ e, e ∈ o.after ∧ (Region.binds md e && e.on == j) = true := ⟨o.after[q], Array.getElem_mem _, hb⟩
    rw [Bool.and_eq_true] at hb
    exact ⟨e, he, hb.1, by simpa using hb.2⟩
  · have hjl : j < ops.size := (Array.getElem?_eq_some_iff.1 hj).1
    have h6 := (List.all_eq_true.1 h5) j (List.mem_range.2 hjl)
    simp only [hj, hpt, ht] at h6
    simp [hne] at h6

theorem put_inj {A a : Act} {d : Option Tmp} {u v : Value} (hz : A.tmps.size = a.tmps.size) (h : A.put d v = A.put d u) : a.put d v = a.put d u := by
  cases d with
  | none => rfl
  | some t =>
    by_cases ht : t < A.tmps.size
    · have e : (A.put (some t) v).tmps[t]? = (A.put (some t) u).tmps[t]? := by rw [h]
      simp [Act.put, ht] at e
      rw [e]
    · have ht' : a.tmps.size ≤ t := Nat.le_of_not_lt (hz ▸ ht)
      simp only [Act.put]
      rw [Array.setIfInBounds_eq_of_size_le ht', Array.setIfInBounds_eq_of_size_le ht']
theorem wp_shift {o : Oper} {A a : Act} {w : World} {K' : Act → World → Prop} {Q : Exit → Act → World → Prop} (hz : A.tmps.size = a.tmps.size) (hsame : execOp a.eval o = execOp A.eval o)
    (h : o.wp P A w (fun a' w' => ∃ u, a' = A.put o.dst u ∧ K' (a.put o.dst u) w') (fun _ _ _ => False)) : o.wp P a w K' Q := by
  unfold Oper.wp at *
  rw [hsame]
  generalize (execOp A.eval o).run P w = r at *
  cases r with
  | ok n w' =>
    cases n <;> simp only [Oper.upon] at h ⊢
    case value v => obtain ⟨u, hu, hk⟩ := h; rw [put_inj hz hu]; exact hk
    case skip => obtain ⟨u, hu, hk⟩ := h; rw [put_inj hz hu]; exact hk
    case defer d =>
      obtain ⟨u, hu, hk⟩ := h
      have := congrArg (fun x => x.defers.length) hu
      exfalso
      cases hd : o.dst <;> simp [Act.put, hd] at this
    case enter f args =>
      refine Calls.mono h fun e w'' he => ?_
      cases e with
      | returned v => obtain ⟨u, hu, hk⟩ := he; show K' _ _; rw [put_inj hz hu]; exact hk
      | panicked c => exact he.elim
      | outgrown => exact absurd he (by unfold LetsOut; simp)
    case row row args =>
      refine Rows.mono h fun v w'' he => ?_
      obtain ⟨u, hu, hk⟩ := he; rw [put_inj hz hu]; exact hk
  | halt x w' => cases x <;> simp only [Oper.upon] at h <;> exact h.elim

/-- An operation waits for the operation j. -/
def hasDep (md : Region.Mode) (o : Oper) (j : Nat) : Bool := o.after.any fun e => Region.binds md e && e.on == j
/-- What is known of the operations that an operation waits for. -/
def DepsOf (md : Region.Mode) (T : Nat → Value → World → Prop) (v : Nat → Value) (w : World) (o : Oper) : Prop := ∀ j, hasDep md o j = true → T j (v j) w
/-- What is to be shown of one operation. -/
structure OblOne (P : Program) (md : Region.Mode) (ops : Array Oper) (T : Nat → Value → World → Prop) (J : Nat → World → Prop) (R : World → World → Prop) (A : (Nat → Value) → Act) (i : Nat) (o : Oper) : Prop where
  out : ∀ (v : Nat → Value) (k : Nat) (w : World), k < ops.size → J k w → DepsOf md T v w o → (∀ K : Act → World → Prop, (∀ u w', T i u w' → J (k + 1) w' → R w w' → K ((A v).put o.dst u) w') →
    if Region.wanted o (yielded ops (A v).tmps) = true then o.wp P (A v) w K (fun _ _ _ => False) else K ((A v).put o.dst undef) w)
def Obl (P : Program) (md : Region.Mode) (ops : Array Oper) (T : Nat → Value → World → Prop) (J : Nat → World → Prop) (R : World → World → Prop) (A : (Nat → Value) → Act) : List Oper → Nat → Prop
  | [], _ => True
  | o :: l, i => OblOne P md ops T J R A i o ∧ Obl P md ops T J R A l (i + 1)
theorem Obl.at_ {md : Region.Mode} {ops : Array Oper} {T : Nat → Value → World → Prop} {J : Nat → World → Prop} {R : World → World → Prop} {A : (Nat → Value) → Act} : ∀ {l : List Oper} {i : Nat}, Obl P md ops T J R A l i → ∀ j o, l[j]? = some o → OblOne P md ops T J R A (i + j) o
  | [], _, _, _, _, h => by simp at h
  | q :: l, i, h, 0, o, ho => by simp at ho; subst ho; exact h.1
  | q :: l, i, h, j + 1, o, ho => by
    have := Obl.at_ h.2 j o (by simpa using ho)
    rwa [show i + 1 + j = i + (j + 1) by omega] at this
/-- What is known behind the region. -/
def AllT (T : Nat → Value → World → Prop) (v : Nat → Value) (w : World) (n : Nat) : Prop := ∀ j, j < n → T j (v j) w

section main
variable {md : Region.Mode} {l : List Oper} {Q : Exit → Act → World → Prop} {T : Nat → Value → World → Prop} {J : Nat → World → Prop} {R : World → World → Prop} {a0 : Act}
theorem ty_any (hB : tyOK md l.toArray = true) (hJm : ∀ k w, J k w → J (k + 1) w) (hR : ∀ i v w w', R w w' → T i v w → T i v w')
    (hob : Obl P md l.toArray T J R (fun v => putL l v 0 a0) l 0) (hend : ∀ v w', J l.length w' → (∀ j, j < l.length → T j (v j) w') → Q .normal (putL l v 0 a0) w') :
    ∀ (fuel k : Nat) (listed : Array Bool) (v : Nat → Value) (w : World), listed.size = l.length → k + fuel = l.length → listed.toList.count false = fuel → J k w →
      (∀ j, listed[j]? = some true → T j (v j) w) → wpAny P md l.toArray Q fuel listed (putS l v (fun j => listed.getD j false) 0 a0) w := by
  obtain ⟨hns, hok⟩ := tyOK_spec hB
  have hjup : ∀ n k w, J k w → J (k + n) w := fun n => by
    induction n with
    | zero => exact fun k w h => h
    | succ n ih => exact fun k w h => hJm _ _ (ih k w h)
  have hfin : ∀ (k : Nat) (listed : Array Bool) (v : Nat → Value) (w : World), listed.size = l.length → k ≤ l.length → J k w → (∀ j, listed[j]? = some true → T j (v j) w) →
      (∀ j, j < l.length → listed[j]? = some true) → Q .normal (putS l v (fun j => listed.getD j false) 0 a0) w := fun k listed v w hz hk hJ hT hall => by
    rw [putS_all l v _ 0 a0 (fun j hj => by rw [Nat.zero_add, Array.getD_eq_getD_getElem?, hall j hj]; rfl)]
    refine hend v w (by have := hjup (l.length - k) k w hJ; rwa [show k + (l.length - k) = l.length by omega] at this) (fun j hj => hT j (hall j hj))
  have hready : ∀ listed : Array Bool, listed.size = l.length → Region.ready md l.toArray listed = [] → ∀ j, j < l.length → listed[j]? = some true := fun listed hz hr j => by
    induction j using Nat.strongRecOn with
    | _ j ih =>
      intro hj
      have hb : listed[j]? = some (listed[j]'(by omega)) := Array.getElem?_eq_getElem (by omega)
      cases hv : listed[j]'(by omega) with
      | true => rw [hb, hv]
      | false =>
        have ho : l.toArray[j]? = some (l[j]'hj) := by simp [hj]
        have : j ∈ Region.ready md l.toArray listed := mem_ready.2 ⟨by rw [Array.getD_eq_getD_getElem?, hb, hv]; rfl, _, ho, fun e he hbn => by
          have hlt := (hok j _ ho).1 e he hbn
          rw [Array.getD_eq_getD_getElem?, ih e.on hlt (by omega)]; rfl⟩
        rw [hr] at this
        cases this
  intro fuel
  induction fuel with
  | zero =>
    intro k listed v w hz hk hc hJ hT
    have hall : ∀ j, j < l.length → listed[j]? = some true := fun j hj => by
      have hb : listed[j]? = some (listed[j]'(by omega)) := Array.getElem?_eq_getElem (by omega)
      rw [hb]
      cases hv : listed[j]'(by omega) with
      | true => rfl
      | false =>
        have hm : false ∈ listed.toList := by
          rw [← hv]; simp
        have := List.count_pos_iff.2 hm
        omega
    refine ⟨?_, hfin k listed v w hz (by omega) hJ hT hall⟩
    cases hr : Region.ready md l.toArray listed with
    | nil => rfl
    | cons j js =>
      have hjm : j ∈ Region.ready md l.toArray listed := by rw [hr]; simp
      obtain ⟨h1, o, h2, _⟩ := mem_ready.1 hjm
      have hjl : j < l.length := by simpa using (Array.getElem?_eq_some_iff.1 h2).1
      rw [Array.getD_eq_getD_getElem?, hall j hjl] at h1
      cases h1
  | succ fuel ih =>
    intro k listed v w hz hk hc hJ hT
    refine ⟨fun hr => hfin k listed v w hz (by omega) hJ hT (hready listed hz hr), fun i hi => ?_⟩
    obtain ⟨hun, o, ho, hed⟩ := mem_ready.1 hi
    have hol : l[i]? = some o := by simpa using ho
    have hil : i < l.length := (List.getElem?_eq_some_iff.1 hol).1
    have hli : listed[i]? = some false := by
      have hb : listed[i]? = some (listed[i]'(by omega)) := Array.getElem?_eq_getElem (by omega)
      rw [Array.getD_eq_getD_getElem?, hb] at hun
      rw [hb]; simpa using hun
    obtain ⟨hk1, hk2, hk3⟩ := hok i o ho
    have hob' := hob.at_ i o hol
    rw [Nat.zero_add] at hob'
    have h1 := hob'.out v k w (by simp; omega) hJ (fun j hdep => by
      obtain ⟨q, hq, hb⟩ := Array.any_eq_true.1 hdep
      rw [Bool.and_eq_true] at hb
      obtain ⟨hb, hj⟩ := hb
      have hj : (o.after[q]).on = j := by simpa using hj
      subst hj
      have h2 := hed _ (Array.getElem_mem hq) hb
      have hel : (o.after[q]).on < listed.size := by
        rcases Nat.lt_or_ge (o.after[q]).on listed.size with h | h
        · exact h
        · rw [Array.getD_eq_getD_getElem?, Array.getElem?_eq_none h] at h2; cases h2
      refine hT _ ?_
      rw [Array.getD_eq_getD_getElem?, Array.getElem?_eq_getElem hel] at h2
      rw [Array.getElem?_eq_getElem hel]
      simpa using h2)
    have htm : ∀ t ∈ o.looksAt l.toArray, (putS l v (fun j => listed.getD j false) 0 a0).tmps[t]? = (putL l v 0 a0).tmps[t]? := fun t ht =>
      putS_tmps t l v _ 0 a0 a0 (fun j p hj hp => by
        obtain ⟨e, he, hb, hj'⟩ := hk2 t ht j p (by simpa using hj) hp
        have := hed e he hb
        rw [hj'] at this
        simpa using this) rfl rfl
    have hsel := Region.noSelect_spec hns
    have hex : execOp (putS l v (fun j => listed.getD j false) 0 a0).eval o = execOp (putL l v 0 a0).eval o :=
      execOp_congr o (fun cs b => hsel i o cs b ho) (fun x hx => by
        cases x with
        | tmp t =>
          have := htm t (List.mem_append_left _ (List.mem_filterMap.2 ⟨.tmp t, by simpa using hx, rfl⟩))
          show Array.getD _ _ _ = Array.getD _ _ _
          rw [Array.getD_eq_getD_getElem?, Array.getD_eq_getD_getElem?, this]
        | _ => rfl)
    have hwt : Region.wanted o (yielded l.toArray (putS l v (fun j => listed.getD j false) 0 a0).tmps) = Region.wanted o (yielded l.toArray (putL l v 0 a0).tmps) := by
      unfold Region.wanted
      cases hg : o.guard with
      | none => rfl
      | some gw =>
        obtain ⟨g, want⟩ := gw
        have hy : yielded l.toArray (putS l v (fun j => listed.getD j false) 0 a0).tmps g = yielded l.toArray (putL l v 0 a0).tmps g := by
          unfold yielded
          cases ht : (l.toArray[g]?).bind (·.dst) with
          | none => rfl
          | some t =>
            have := htm t (List.mem_append_right _ (by simp only [hg, ht]; simp))
            simp only [Option.bind_some, this]
        simp only [hy]
    have hsz : (putL l v 0 a0).tmps.size = (putS l v (fun j => listed.getD j false) 0 a0).tmps.size := by
      rw [putL_eq, (putS_size _ _ _ _ _).1, (putS_size _ _ _ _ _).1]
    -- the next state
    have hnext : ∀ u w', T i u w' → J (k + 1) w' → R w w' → wpAny P md l.toArray Q fuel (listed.setIfInBounds i true) ((putS l v (fun j => listed.getD j false) 0 a0).put o.dst u) w' := fun u w' hTu hJ' hRw => by
      have hone := putS_one l v (fun j => listed.getD j false) 0 i a0 o u hol (by rw [Nat.zero_add, Array.getD_eq_getD_getElem?, hli]; rfl) (fun j p hj hne t ht => hk3 j p (by simpa using hj) hne t ht)
      rw [Nat.zero_add] at hone
      have hd : ∀ j, updB (fun j => listed.getD j false) i j = (listed.setIfInBounds i true).getD j false := fun j => by
        simp only [updB]
        by_cases hji : j = i
        · subst hji; rw [if_pos rfl, Array.getD_eq_getD_getElem?, Array.getElem?_setIfInBounds_self_of_lt (by omega)]; rfl
        · rw [if_neg hji, getD_set_ne false (Ne.symm hji)]
      rw [hone, putS_congr l _ (updV v i u) _ (fun j => (listed.setIfInBounds i true).getD j false) 0 a0 (fun j _ => ⟨rfl, hd j⟩)]
      refine ih (k + 1) _ _ w' (by simpa using hz) (by omega) ?_ hJ' (fun j hj => ?_)
      · have hcs : (listed.toList.set i true).count false = listed.toList.count false - 1 := by
          rw [List.count_set (by simpa using (by omega : i < listed.size))]
          have : listed.toList[i]'(by simpa using (by omega : i < listed.size)) = false := by
            have := (Array.getElem?_eq_some_iff.1 hli).2
            simpa using this
          simp [this]
        rw [Array.toList_setIfInBounds, hcs]; omega
      · by_cases hji : j = i
        · subst hji; simpa [updV] using hTu
        · rw [Array.getElem?_setIfInBounds_ne (Ne.symm hji)] at hj
          rw [updV, if_neg hji]
          exact hR _ _ _ _ hRw (hT j hj)
    refine wpOp_step ho (fun K' hK' => ?_)
    rw [hwt]
    by_cases hw : Region.wanted o (yielded l.toArray (putL l v 0 a0).tmps) = true
    · rw [if_pos hw]
      have h2 := h1 (fun a' w' => ∃ u, a' = (putL l v 0 a0).put o.dst u ∧ K' ((putS l v (fun j => listed.getD j false) 0 a0).put o.dst u) w')
        (fun u w' hTu hJ' hRw => ⟨u, rfl, hK' _ _ (hnext u w' hTu hJ' hRw)⟩)
      rw [if_pos hw] at h2
      exact wp_shift hsz hex h2
    · rw [if_neg hw]
      have h2 := h1 (fun a' w' => ∃ u, a' = (putL l v 0 a0).put o.dst u ∧ K' ((putS l v (fun j => listed.getD j false) 0 a0).put o.dst u) w')
        (fun u w' hTu hJ' hRw => ⟨u, rfl, hK' _ _ (hnext u w' hTu hJ' hRw)⟩)
      rw [if_neg hw] at h2
      obtain ⟨u, hu, hk'⟩ := h2
      rw [put_inj hsz hu]
      exact hk'

/-- THE LAW: whatever order the tape picks. -/
theorem wp_region_ty {id : Nat} {w : World} (T : Nat → Value → World → Prop) (J : Nat → World → Prop) (R : World → World → Prop) (hm : P.follows .mixedOrders = true) (hB : tyOK .any l.toArray = true)
    (hJm : ∀ k w, J k w → J (k + 1) w) (hR : ∀ i v w w', R w w' → T i v w → T i v w') (hJ : J 0 w.drew)
    (hob : Obl P .any l.toArray T J R (fun v => putL l v 0 a0) l 0)
    (hend : ∀ v w', J l.length w' → AllT T v w' l.length → Q .normal (putL l v 0 a0) w') : (Code.region id l.toArray true).wp P Q a0 w := by
  refine wp_region_any hm ?_
  have h := ty_any (P := P) (Q := Q) hB hJm hR hob (fun v w' hJ' hT => hend v w' hJ' hT) l.length 0 (Array.replicate l.length false) (fun _ => undef) w.drew (by simp) (by simp) (by simp [List.count_replicate_self]) hJ (fun j hj => by
    rw [Array.getElem?_replicate] at hj
    split at hj <;> simp at hj)
  rw [putS_none l _ _ 0 a0 (fun j hj => by rw [Array.getD_eq_getD_getElem?, Array.getElem?_replicate]; split <;> rfl)] at h
  simpa using h
end main

section ob
variable {md : Region.Mode} {ops : Array Oper} {T : Nat → Value → World → Prop} {J : Nat → World → Prop} {R : World → World → Prop} {A : (Nat → Value) → Act} {i : Nat} {o : Oper}
/-- An operation that yields a value at once. -/
theorem ob_run (hg : o.guard = none) (h : ∀ v k w, k < ops.size → J k w → DepsOf md T v w o → ∃ u w', (execOp (A v).eval o).run P w = .ok (.value u) w' ∧ T i u w' ∧ J (k + 1) w' ∧ R w w') : OblOne P md ops T J R A i o := by
  refine ⟨fun v k w hk hJ hd K hK => ?_⟩
  obtain ⟨u, w', hr, h1, h2, h3⟩ := h v k w hk hJ hd
  rw [if_pos (by simp [Region.wanted, hg])]
  unfold Oper.wp
  rw [hr]
  exact hK u w' h1 h2 h3
/-- A call. -/
theorem ob_call (hg : o.guard = none) (h : ∀ v k w, k < ops.size → J k w → DepsOf md T v w o → ∃ f args, (execOp (A v).eval o).run P w = .ok (.enter f args) w ∧ Calls P f args w (fun e w' => ∃ u, e = .returned u ∧ T i u w' ∧ J (k + 1) w' ∧ R w w')) : OblOne P md ops T J R A i o := by
  refine ⟨fun v k w hk hJ hd K hK => ?_⟩
  obtain ⟨f, args, hr, hc⟩ := h v k w hk hJ hd
  rw [if_pos (by simp [Region.wanted, hg])]
  unfold Oper.wp
  rw [hr]
  refine Calls.mono hc ?_
  rintro e w' ⟨u, rfl, h1, h2, h3⟩
  exact hK u w' h1 h2 h3
end ob
end
end Go.Proofs.Ytlklkloadefihaa

namespace Go.Proofs.Ytlklkloadefihaa
open Go.RowKit
set_option linter.unusedVariables false

/-- A number between bounds. -/
def IsI (lo hi : Int) (v : Value) : Prop := ∃ x : Int, v = .int .i64 x ∧ lo ≤ x ∧ x ≤ hi
theorem IsI.mk {lo hi x : Int} (h1 : lo ≤ x) (h2 : x ≤ hi) : IsI lo hi (.int .i64 x) := ⟨x, rfl, h1, h2⟩
inductive Ty where
  | is (v : Value)
  | val (p : Value → Prop)
  | arr (n : Nat) (p : Value → Prop)
  | elem (p : Value → Prop)
  | any
def Ty.ok (g : Nat) : Ty → Value → World → Prop
  | .is u, v, _ => v = u
  | .val p, v, _ => p v
  | .arr n p, v, w => ∃ (b : Nat) (t : TypeId) (cs : Array Value), v = .slice (some ⟨b, 0, none⟩) n n ∧ b ≠ g ∧ Blk w b t cs ∧ ∀ i, i < n → ∃ u, cs[i]? = some u ∧ p u
  | .elem p, v, w => ∃ (b i : Nat) (u : Value), v = .pointer (some ⟨b, i, none⟩) ∧ b ≠ g ∧ b < w.heap.size ∧ w.cell? ⟨b, i, none⟩ = some u ∧ p u
  | .any, _, _ => True
theorem Ty.keep {g : Nat} {w w' : World} (hg : w.grownBy w' (some g)) : ∀ {t : Ty} {v : Value}, t.ok g v w → t.ok g v w'
  | .is _, _, h => h
  | .val _, _, h => h
  | .arr _ _, _, ⟨b, t, cs, hv, hb, hB, hc⟩ => ⟨b, t, cs, hv, hb, hB.grown hg (by simpa using hb), hc⟩
  | .elem _, _, ⟨b, i, x, hv, hb, hl, hc, hx⟩ => ⟨b, i, x, hv, hb, Nat.lt_of_lt_of_le hl hg.size, by rw [World.cell?_of_block (hg.block b hl (by simpa using hb))]; exact hc, hx⟩
  | .any, _, _ => trivial
/-- The reader in block g has read at most m + k times; nothing has turned since w0 but block g. -/
def RdJ (w0 : World) (g m : Nat) (k : Nat) (w : World) : Prop := Rdr w g (m + k) ∧ w0.grownBy w (some g)
theorem RdJ.up {w0 w : World} {g m k : Nat} (h : RdJ w0 g m k w) : RdJ w0 g m (k + 1) w := ⟨h.1.mono (by omega), h.2⟩
theorem RdJ.alloc {w0 w : World} {g m k : Nat} (h : RdJ w0 g m k w) (o : Obj) : RdJ w0 g m k (w.alloc o) := ⟨h.1.alloc o, galloc h.2 o⟩
theorem RdJ.zero {w : World} {g m : Nat} (h : Rdr w g m) : RdJ w g m 0 w.drew := ⟨h.drew, gdrew (grefl _ _)⟩
/-- A number drawn in such a region. -/
theorem j_pick {w0 w : World} {g m k : Nat} {N : Int} (h : RdJ w0 g m k w) (hm : m + k ≤ 1000000) (hN : 1 ≤ N) :
    Calls Try.prog 43 #[.pointer (some ⟨g, 0, none⟩), .int .i64 N] w fun e w' => ∃ x : Int, e = .returned (.int .i64 x) ∧ (0 ≤ x ∧ x ≤ N - 1) ∧ RdJ w0 g m (k + 1) w' ∧ w.grownBy w' (some g) :=
  (r_pick g (m + k) N w h.1 hm).mono fun e w' ⟨x, he, hx, hr, hg⟩ => ⟨x, he, by omega, ⟨hr, gtrans h.2 hg⟩, hg⟩
/-- The law at these types. -/
theorem wp_region_rd {id : Nat} {w : World} {l : List Oper} {a0 : Act} {Q : Exit → Act → World → Prop} {g m : Nat} (ts : List Ty) (hm : Try.prog.follows .mixedOrders = true) (hB : tyOK .any l.toArray = true) (hJ : Rdr w g m)
    (hob : Obl Try.prog .any l.toArray (fun i => (ts.getD i .any).ok g) (RdJ w g m) (fun w w' => w.grownBy w' (some g)) (fun v => putL l v 0 a0) l 0)
    (hend : ∀ v w', RdJ w g m l.length w' → AllT (fun i => (ts.getD i .any).ok g) v w' l.length → Q .normal (putL l v 0 a0) w') : (Code.region id l.toArray true).wp Try.prog Q a0 w :=
  wp_region_ty (fun i => (ts.getD i .any).ok g) (RdJ w g m) (fun w w' => w.grownBy w' (some g)) hm hB (fun _ _ h => h.up) (fun i _ _ _ hR h => Ty.keep (t := ts.getD i .any) hR h) (RdJ.zero hJ) hob hend

section ops
variable {ts : List Ty} {w0 : World} {g m : Nat} {ops : Array Oper} {A : (Nat → Value) → Act} {i : Nat} {o : Oper}
/-- What is to be shown of one operation of such a region. -/
abbrev Ob (ts : List Ty) (w0 : World) (g m : Nat) (ops : Array Oper) (A : (Nat → Value) → Act) (i : Nat) (o : Oper) : Prop :=
  OblOne Try.prog .any ops (fun i => (ts.getD i .any).ok g) (RdJ w0 g m) (fun w w' => w.grownBy w' (some g)) A i o
theorem dep_ok {v : Nat → Value} {w : World} (h : DepsOf .any (fun i => (ts.getD i .any).ok g) v w o) (j : Nat) (hd : hasDep .any o j = true) {t : Ty} (ht : ts.getD j .any = t) : t.ok g (v j) w := by
  subst ht; exact h j hd
/-- A number among the operands: a constant, or what an operation of the region has left. -/
structure Opd (ts : List Ty) (g : Nat) (A : (Nat → Value) → Act) (o : Oper) (y : Operand) (p : Value → Prop) : Prop where
  out : ∀ v w, DepsOf .any (fun i => (ts.getD i .any).ok g) v w o → p ((A v).eval y)
theorem opd_const {y : Operand} {p : Value → Prop} (u : Value) (e : ∀ v, (A v).eval y = u) (h : p u) : Opd ts g A o y p := ⟨fun v w _ => by rw [e]; exact h⟩
theorem opd_dep {y : Operand} {p : Value → Prop} (j : Nat) (e : ∀ v, (A v).eval y = v j) (hd : hasDep .any o j = true) (ht : ts.getD j .any = .val p) : Opd ts g A o y p := ⟨fun v w h => by
  rw [e]; exact dep_ok h j hd ht⟩
theorem opd_is {y : Operand} {p : Value → Prop} (j : Nat) (u : Value) (e : ∀ v, (A v).eval y = v j) (hd : hasDep .any o j = true) (ht : ts.getD j .any = .is u) (hp : p u) : Opd ts g A o y p := ⟨fun v w h => by
  rw [e, show v j = u from dep_ok h j hd ht]; exact hp⟩
theorem opd_wide {y : Operand} {lo hi lo' hi' : Int} (h : Opd ts g A o y (IsI lo hi)) (h1 : lo' ≤ lo) (h2 : hi ≤ hi') : Opd ts g A o y (IsI lo' hi') := ⟨fun v w hd => by
  obtain ⟨x, e, a, b⟩ := h.out v w hd
  exact ⟨x, e, by omega, by omega⟩⟩
theorem ob_is {y : Operand} {u : Value} (ho : o.op = .move y ∨ o.op = .assign y) (hg : o.guard = none) (hi : ts.getD i .any = .is u) (e : ∀ v, (A v).eval y = u) : Ob ts w0 g m ops A i o :=
  ob_run hg fun v k w _ hJ _ => ⟨u, w, by rcases ho with ho | ho <;> (unfold execOp; simp only [ho, e]; rfl), by show Ty.ok _ _ _ _; rw [hi]; exact rfl, hJ.up, grefl _ _⟩
theorem ob_cp {y : Operand} (j : Nat) (ho : o.op = .move y ∨ o.op = .assign y) (hg : o.guard = none) (e : ∀ v, (A v).eval y = v j) (hd : hasDep .any o j = true) (hi : ts.getD i .any = ts.getD j .any) : Ob ts w0 g m ops A i o :=
  ob_run hg fun v k w _ hJ hdep => ⟨v j, w, by rcases ho with ho | ho <;> (unfold execOp; simp only [ho, e]; rfl), by show Ty.ok _ _ _ _; rw [hi]; exact hdep j hd, hJ.up, grefl _ _⟩
theorem ob_val {y : Operand} {p : Value → Prop} (ho : o.op = .move y ∨ o.op = .assign y) (hg : o.guard = none) (h : Opd ts g A o y p) (hi : ts.getD i .any = .val p) : Ob ts w0 g m ops A i o :=
  ob_run hg fun v k w _ hJ hdep => ⟨(A v).eval y, w, by rcases ho with ho | ho <;> (unfold execOp; simp only [ho]; rfl), by show Ty.ok _ _ _ _; rw [hi]; exact h.out v w hdep, hJ.up, grefl _ _⟩
set_option maxRecDepth 100000 in
theorem ob_pick {y : Operand} {N hi' : Int} {aty : Array TypeId} (j : Nat) (ho : o.op = .call { callee := .value (.func 43), args := #[y, .const (.int .i64 N)], argTypes := aty }) (hg : o.guard = none)
    (e : ∀ v, (A v).eval y = v j) (hd : hasDep .any o j = true) (hj : ts.getD j .any = .is (.pointer (some ⟨g, 0, none⟩))) (hi : ts.getD i .any = .val (IsI 0 hi')) (hN : 1 ≤ N) (hhi : N - 1 ≤ hi') (hm : m + ops.size ≤ 1000000) : Ob ts w0 g m ops A i o :=
  ob_call hg fun v k w hk hJ hdep => by
    have hp : v j = .pointer (some ⟨g, 0, none⟩) := dep_ok hdep j hd hj
    refine ⟨43, #[.pointer (some ⟨g, 0, none⟩), .int .i64 N], ?_, ?_⟩
    · unfold execOp
      simp only [ho]
      simp only [resolve, List.map_toArray, List.map_cons, List.map_nil, e, hp]
      rfl
    · refine (j_pick hJ (by omega) hN).mono ?_
      rintro e w' ⟨x, rfl, hx, hJ', hg'⟩
      exact ⟨_, rfl, by show Ty.ok _ _ _ _; rw [hi]; exact ⟨x, rfl, hx.1, by omega⟩, hJ', hg'⟩
theorem ob_arr {t el : TypeId} {n : Nat} {parts : Array (Nat × Operand)} {p : Value → Prop} (F : (Nat → Value) → List Value) (ho : o.op = .buildSlice t n parts) (hg : o.guard = none)
    (hu : Try.prog.underlying t = some (.slice el)) (hsz : (Try.prog.info? el).map (·.size) = some 1) (hz : ((Try.prog.info? el).bind (·.zero)).isSome = true)
    (e : ∀ v, (parts.map fun (i, x) => (i, (A v).eval x)).toList = ((F v).zipIdx 0).map fun x => (x.2, x.1)) (hl : ∀ v, (F v).length = n) (hn : 0 < n) (hn2 : n ≤ 1000) (hone : ∀ u, p u → u.cells = #[u])
    (hp : ∀ v w, DepsOf .any (fun i => (ts.getD i .any).ok g) v w o → ∀ u ∈ F v, p u) (hi : ts.getD i .any = .arr n p) : Ob ts w0 g m ops A i o :=
  ob_run hg fun v k w _ hJ hdep => by
    cases hie : Try.prog.info? el with
    | none => simp [hie] at hsz
    | some ie =>
      simp only [hie, Option.map_some, Option.some.injEq, Option.bind_some] at hsz hz
      obtain ⟨z, hzz⟩ := Option.isSome_iff_exists.1 hz
      have hpv := hp v w hdep
      have hrun := run_buildSlice (P := Try.prog) w t el n (parts.map fun (i, x) => (i, (A v).eval x)) (F v).toArray ie z hu hie hzz (by rw [hsz]; omega) (by rw [hsz]; omega) (by
        rw [e, hsz]
        exact Great.fill_flat _ _ (fun u hu => hone u (hpv u hu)) (by simp [hl]))
      refine ⟨_, _, by unfold execOp; simp only [ho, Sem.run_bind, hrun, Result.andThen_ok]; rfl, ?_, hJ.up.alloc _, galloc (grefl _ _) _⟩
      show Ty.ok _ _ _ _
      rw [hi]
      refine ⟨_, el, _, rfl, ?_, Blk.new _ _ _, fun q hq => ?_⟩
      · have := hJ.1.lt; omega
      · have hq' : q < (F v).length := by rw [hl]; exact hq
        exact ⟨(F v)[q], by simp [hq'], hpv _ (List.getElem_mem _)⟩
theorem ob_idx {t el : TypeId} {y z : Operand} {n : Nat} {p : Value → Prop} {hi' : Int} (j : Nat) (ho : o.op = .indexAddr t y z) (hg : o.guard = none)
    (e : ∀ v, (A v).eval y = v j) (hd : hasDep .any o j = true) (hj : ts.getD j .any = .arr n p) (hx : Opd ts g A o z (IsI 0 hi')) (hn : hi' < n)
    (hu : Try.prog.underlying t = some (.slice el)) (hsz : (Try.prog.info? el).map (·.size) = some 1) (hi : ts.getD i .any = .elem p) : Ob ts w0 g m ops A i o :=
  ob_run hg fun v k w _ hJ hdep => by
    have hp := dep_ok hdep j hd hj
    obtain ⟨b, tb, cs, hv, hb, hB, hc⟩ := hp
    obtain ⟨x, hx1, hx2, hx3⟩ := hx.out v w hdep
    obtain ⟨q, rfl⟩ := Int.eq_ofNat_of_zero_le hx2
    obtain ⟨u, hu1, hu2⟩ := hc q (by omega)
    refine ⟨.pointer (some ⟨b, q, none⟩), w, ?_, ?_, hJ.up, grefl _ _⟩
    · unfold execOp
      simp only [ho, e, hv, hx1]
      cases hie : Try.prog.info? el with
      | none => simp [hie] at hsz
      | some ie =>
        simp only [hie, Option.map_some, Option.some.injEq] at hsz
        simp [Instr.indexAt, run_underlying hu, asIntOf, sizeOf, typeInfo, hie, hsz, show q < n by omega, add_lit']
    · show Ty.ok _ _ _ _
      rw [hi]
      exact ⟨b, q, u, rfl, hb, hB.lt, (hB.cell q).trans hu1, hu2⟩
theorem ob_load {t : TypeId} {y : Operand} {p : Value → Prop} (j : Nat) (ho : o.op = .load t y) (hg : o.guard = none)
    (e : ∀ v, (A v).eval y = v j) (hd : hasDep .any o j = true) (hj : ts.getD j .any = .elem p) (hld : ∀ (w : World) (a : Addr) (u : Value), w.cell? a = some u → p u → (Instr.loadAt t (.pointer (some a))).run Try.prog w = .ok u w)
    (hi : ts.getD i .any = .val p) : Ob ts w0 g m ops A i o :=
  ob_run hg fun v k w _ hJ hdep => by
    have hp := dep_ok hdep j hd hj
    obtain ⟨b, q, u, hv, hb, hl, hc, hu⟩ := hp
    refine ⟨u, w, ?_, by show Ty.ok _ _ _ _; rw [hi]; exact hu, hJ.up, grefl _ _⟩
    unfold execOp
    simp only [ho, e, hv, Sem.run_bind, hld w _ u hc hu, Result.andThen_ok]
    rfl
theorem ld_int {lo hi : Int} (w : World) (a : Addr) (u : Value) (h : w.cell? a = some u) (hu : IsI lo hi u) : (Instr.loadAt 3 (.pointer (some a))).run Try.prog w = .ok u w := by
  obtain ⟨x, rfl, _, _⟩ := hu
  simp [go_sem, h]
theorem IsI.one {lo hi : Int} (u : Value) (h : IsI lo hi u) : u.cells = #[u] := by obtain ⟨x, rfl, _⟩ := h; rfl
theorem ob_add {y z : Operand} {a b c d lo hi' : Int} {tz : TypeId} (ho : o.op = .binOp .add 3 y z tz) (hg : o.guard = none) (h1 : Opd ts g A o y (IsI a b)) (h2 : Opd ts g A o z (IsI c d))
    (hl : lo ≤ a + c) (hh : b + d ≤ hi') (hl2 : -1000000000000 ≤ a + c) (hh2 : b + d ≤ 1000000000000) (hi : ts.getD i .any = .val (IsI lo hi')) : Ob ts w0 g m ops A i o :=
  ob_run hg fun v k w _ hJ hdep => by
    obtain ⟨x, e1, x1, x2⟩ := h1.out v w hdep
    obtain ⟨q, e2, q1, q2⟩ := h2.out v w hdep
    refine ⟨.int .i64 (x + q), w, ?_, by show Ty.ok _ _ _ _; rw [hi]; exact ⟨_, rfl, by omega, by omega⟩, hJ.up, grefl _ _⟩
    unfold execOp
    have hw : IntKind.i64.wrap (x + q) = x + q := IntWalk.i64_in _ (by omega)
    simp only [ho, e1, e2]
    simp [go_sem, hw]
theorem ob_sub {y z : Operand} {a b c d lo hi' : Int} {tz : TypeId} (ho : o.op = .binOp .sub 3 y z tz) (hg : o.guard = none) (h1 : Opd ts g A o y (IsI a b)) (h2 : Opd ts g A o z (IsI c d))
    (hl : lo ≤ a - d) (hh : b - c ≤ hi') (hl2 : -1000000000000 ≤ a - d) (hh2 : b - c ≤ 1000000000000) (hi : ts.getD i .any = .val (IsI lo hi')) : Ob ts w0 g m ops A i o :=
  ob_run hg fun v k w _ hJ hdep => by
    obtain ⟨x, e1, x1, x2⟩ := h1.out v w hdep
    obtain ⟨q, e2, q1, q2⟩ := h2.out v w hdep
    refine ⟨.int .i64 (x - q), w, ?_, by show Ty.ok _ _ _ _; rw [hi]; exact ⟨_, rfl, by omega, by omega⟩, hJ.up, grefl _ _⟩
    unfold execOp
    have hw : IntKind.i64.wrap (x - q) = x - q := IntWalk.i64_in _ (by omega)
    simp only [ho, e1, e2]
    simp [go_sem, hw]
theorem ob_mul {y z : Operand} {a b c d lo hi' : Int} {tz : TypeId} (ho : o.op = .binOp .mul 3 y z tz) (hg : o.guard = none) (h1 : Opd ts g A o y (IsI a b)) (h2 : Opd ts g A o z (IsI c d))
    (ha : 0 ≤ a) (hc : 0 ≤ c) (hl : lo ≤ 0) (hh : b * d ≤ hi') (hh2 : b * d ≤ 1000000000000) (hi : ts.getD i .any = .val (IsI lo hi')) : Ob ts w0 g m ops A i o :=
  ob_run hg fun v k w _ hJ hdep => by
    obtain ⟨x, e1, x1, x2⟩ := h1.out v w hdep
    obtain ⟨q, e2, q1, q2⟩ := h2.out v w hdep
    have hm0 : 0 ≤ x * q := Int.mul_nonneg (by omega) (by omega)
    have hm1 : x * q ≤ b * d := Int.mul_le_mul x2 q2 (by omega) (by omega)
    refine ⟨.int .i64 (x * q), w, ?_, by show Ty.ok _ _ _ _; rw [hi]; exact ⟨_, rfl, by omega, by omega⟩, hJ.up, grefl _ _⟩
    unfold execOp
    have hw : IntKind.i64.wrap (x * q) = x * q := IntWalk.i64_in _ (by omega)
    simp only [ho, e1, e2]
    simp [go_sem, hw]
theorem ob_quo {y z : Operand} {a b c d lo hi' : Int} {tz : TypeId} (ho : o.op = .binOp .quo 3 y z tz) (hg : o.guard = none) (h1 : Opd ts g A o y (IsI a b)) (h2 : Opd ts g A o z (IsI c d))
    (ha : 0 ≤ a) (hc : 1 ≤ c) (hl : lo ≤ 0) (hh : b ≤ hi') (hh2 : b ≤ 1000000000000) (hi : ts.getD i .any = .val (IsI lo hi')) : Ob ts w0 g m ops A i o :=
  ob_run hg fun v k w _ hJ hdep => by
    obtain ⟨x, e1, x1, x2⟩ := h1.out v w hdep
    obtain ⟨q, e2, q1, q2⟩ := h2.out v w hdep
    have hm0 : 0 ≤ x / q := Int.ediv_nonneg (by omega) (by omega)
    have hm1 : x / q ≤ x := Int.ediv_le_self _ (by omega)
    have ht : x.tdiv q = x / q := Int.tdiv_eq_ediv_of_nonneg (by omega)
    refine ⟨.int .i64 (x / q), w, ?_, by show Ty.ok _ _ _ _; rw [hi]; exact ⟨_, rfl, by omega, by omega⟩, hJ.up, grefl _ _⟩
    unfold execOp
    have hw : IntKind.i64.wrap (x / q) = x / q := IntWalk.i64_in _ (by omega)
    have hq : q ≠ 0 := by omega
    simp only [ho, e1, e2]
    simp [go_sem, ht, hw, hq]
theorem ob_quoc {y z : Operand} {a b c d lo hi' : Int} {tz : TypeId} (ho : o.op = .binOp .quo 3 y z tz) (hg : o.guard = none) (h1 : Opd ts g A o y (IsI a b)) (h2 : Opd ts g A o z (IsI c d))
    (ha : 0 ≤ a) (hcd : c = d) (hc : 1 ≤ c) (hl : lo ≤ 0) (hh : b / c ≤ hi') (hh2 : b ≤ 1000000000000) (hi : ts.getD i .any = .val (IsI lo hi')) : Ob ts w0 g m ops A i o :=
  ob_run hg fun v k w _ hJ hdep => by
    obtain ⟨x, e1, x1, x2⟩ := h1.out v w hdep
    obtain ⟨q, e2, q1, q2⟩ := h2.out v w hdep
    obtain rfl : q = c := by omega
    have hm0 : 0 ≤ x / q := Int.ediv_nonneg (by omega) (by omega)
    have hm1 : x / q ≤ x := Int.ediv_le_self _ (by omega)
    have hm2 : x / q ≤ b / q := Int.ediv_le_ediv (by omega) x2
    have ht : x.tdiv q = x / q := Int.tdiv_eq_ediv_of_nonneg (by omega)
    refine ⟨.int .i64 (x / q), w, ?_, by show Ty.ok _ _ _ _; rw [hi]; exact ⟨_, rfl, by omega, by omega⟩, hJ.up, grefl _ _⟩
    unfold execOp
    have hw : IntKind.i64.wrap (x / q) = x / q := IntWalk.i64_in _ (by omega)
    have hq : q ≠ 0 := by omega
    simp only [ho, e1, e2]
    simp [go_sem, ht, hw, hq]
theorem ob_min {y z : Operand} {a b c d lo hi' : Int} {aty : Array TypeId} (ho : o.op = .call { callee := .builtin .min, args := #[y, z], argTypes := aty }) (hg : o.guard = none) (h1 : Opd ts g A o y (IsI a b)) (h2 : Opd ts g A o z (IsI c d))
    (hl : lo ≤ min a c) (hh : min b d ≤ hi') (hi : ts.getD i .any = .val (IsI lo hi')) : Ob ts w0 g m ops A i o :=
  ob_run hg fun v k w _ hJ hdep => by
    obtain ⟨x, e1, x1, x2⟩ := h1.out v w hdep
    obtain ⟨q, e2, q1, q2⟩ := h2.out v w hdep
    refine ⟨.int .i64 (min x q), w, ?_, by show Ty.ok _ _ _ _; rw [hi]; exact ⟨_, rfl, by omega, by omega⟩, hJ.up, grefl _ _⟩
    unfold execOp
    simp only [ho, resolve, List.map_toArray, List.map_cons, List.map_nil, e1, e2]
    simp [go_sem]
    try (simp only [Int.min_def]; split <;> first | rfl | omega | (split <;> omega))
theorem ob_max {y z : Operand} {a b c d lo hi' : Int} {aty : Array TypeId} (ho : o.op = .call { callee := .builtin .max, args := #[y, z], argTypes := aty }) (hg : o.guard = none) (h1 : Opd ts g A o y (IsI a b)) (h2 : Opd ts g A o z (IsI c d))
    (hl : lo ≤ max a c) (hh : max b d ≤ hi') (hi : ts.getD i .any = .val (IsI lo hi')) : Ob ts w0 g m ops A i o :=
  ob_run hg fun v k w _ hJ hdep => by
    obtain ⟨x, e1, x1, x2⟩ := h1.out v w hdep
    obtain ⟨q, e2, q1, q2⟩ := h2.out v w hdep
    refine ⟨.int .i64 (max x q), w, ?_, by show Ty.ok _ _ _ _; rw [hi]; exact ⟨_, rfl, by omega, by omega⟩, hJ.up, grefl _ _⟩
    unfold execOp
    simp only [ho, resolve, List.map_toArray, List.map_cons, List.map_nil, e1, e2]
    simp [go_sem]
    try (simp only [Int.max_def]; split <;> first | rfl | omega | (split <;> omega))
set_option maxRecDepth 100000 in
theorem ob_pickN {y z : Operand} {hi' c d : Int} {aty : Array TypeId} (j : Nat) (ho : o.op = .call { callee := .value (.func 43), args := #[y, z], argTypes := aty }) (hg : o.guard = none)
    (e : ∀ v, (A v).eval y = v j) (hd : hasDep .any o j = true) (hj : ts.getD j .any = .is (.pointer (some ⟨g, 0, none⟩))) (hz : Opd ts g A o z (IsI c d)) (hi : ts.getD i .any = .val (IsI 0 hi')) (hN : 1 ≤ c) (hhi : d - 1 ≤ hi') (hm : m + ops.size ≤ 1000000) : Ob ts w0 g m ops A i o :=
  ob_call hg fun v k w hk hJ hdep => by
    have hp : v j = .pointer (some ⟨g, 0, none⟩) := dep_ok hdep j hd hj
    obtain ⟨N, e2, q1, q2⟩ := hz.out v w hdep
    refine ⟨43, #[.pointer (some ⟨g, 0, none⟩), .int .i64 N], ?_, ?_⟩
    · unfold execOp
      simp only [ho]
      simp only [resolve, List.map_toArray, List.map_cons, List.map_nil, e, e2, hp]
      rfl
    · refine (j_pick hJ (by omega) (by omega)).mono ?_
      rintro e w' ⟨x, rfl, hx, hJ', hg'⟩
      exact ⟨_, rfl, by show Ty.ok _ _ _ _; rw [hi]; exact ⟨x, rfl, hx.1, by omega⟩, hJ', hg'⟩
end ops
end Go.Proofs.Ytlklkloadefihaa

namespace Go.Proofs.Ytlklkloadefihaa
open Go.RowKit
set_option linter.unusedVariables false

/-- Nothing has turned but the blocks g and G. -/
structure G2 (w w' : World) (g G : Nat) : Prop where
  one : ∀ (a : World), a.heap.size ≤ G → a.grownBy w (some g) → a.grownBy w' (some g)
  size : w.heap.size ≤ w'.heap.size
  block : ∀ i, i < w.heap.size → i ≠ g → i ≠ G → w'.heap[i]? = w.heap[i]?
theorem g2refl (w : World) (g G : Nat) : G2 w w g G := ⟨fun a _ h => h, Nat.le_refl _, fun _ _ _ _ => rfl⟩
theorem g2trans {a b c : World} {g G : Nat} (h : G2 a b g G) (k : G2 b c g G) : G2 a c g G :=
  ⟨fun x hx hg => k.one x hx (h.one x hx hg), Nat.le_trans h.size k.size, fun i hi h1 h2 => (k.block i (Nat.lt_of_lt_of_le hi h.size) h1 h2).trans (h.block i hi h1 h2)⟩
theorem g2of {w w' : World} {g G : Nat} (h : w.grownBy w' (some g)) : G2 w w' g G :=
  ⟨fun a _ hg => gtrans hg h, h.size, fun i hi h1 _ => h.block i hi (by simpa using h1)⟩
theorem g2alloc {w w' : World} {g G : Nat} (h : G2 w w' g G) (o : Obj) : G2 w (w'.alloc o) g G := g2trans h (g2of (galloc (grefl _ _) o))
theorem g2set {w w' : World} {g G k : Nat} (h : G2 w w' g G) (u : Value) : G2 w (w'.setCell ⟨G, k, none⟩ u) g G :=
  ⟨fun a ha hg => gset (h.one a ha hg) (.inr ha) u, by simpa [World.setCell] using h.size, fun i hi h1 h2 => (Below.heap_setCell w' ⟨G, k, none⟩ u i h2).trans (h.block i hi h1 h2)⟩
def IsGl (v : Value) : Prop := ∃ a b c d : Int, v = .agg #[.int .i64 a, .int .i64 b, .int .i64 c, .int .i64 d]
def GlBlk (w : World) (G : Nat) : Prop := ∃ a b c d : Int, Blk w G 29 #[.int .i64 a, .int .i64 b, .int .i64 c, .int .i64 d]
theorem GlBlk.grown {w w' : World} {g G : Nat} (h : GlBlk w G) (hg : w.grownBy w' (some g)) (hne : G ≠ g) : GlBlk w' G := by
  obtain ⟨a, b, c, d, h⟩ := h
  exact ⟨a, b, c, d, h.grown hg (by simpa using hne)⟩
theorem GlBlk.alloc {w : World} {G : Nat} (h : GlBlk w G) (o : Obj) : GlBlk (w.alloc o) G := by
  obtain ⟨a, b, c, d, h⟩ := h
  exact ⟨a, b, c, d, h.alloc o⟩
def Ty.ok2 (g G : Nat) : Ty → Value → World → Prop
  | .is u, v, _ => v = u
  | .val p, v, _ => p v
  | .arr n p, v, w => ∃ (b : Nat) (t : TypeId) (cs : Array Value), v = .slice (some ⟨b, 0, none⟩) n n ∧ b ≠ g ∧ b ≠ G ∧ Blk w b t cs ∧ ∀ i, i < n → ∃ u, cs[i]? = some u ∧ p u
  | .elem p, v, w => ∃ (b i : Nat) (u : Value), v = .pointer (some ⟨b, i, none⟩) ∧ b ≠ g ∧ b ≠ G ∧ b < w.heap.size ∧ w.cell? ⟨b, i, none⟩ = some u ∧ p u
  | .any, _, _ => True
theorem Ty.keep2 {g G : Nat} {w w' : World} (hg : G2 w w' g G) : ∀ {t : Ty} {v : Value}, t.ok2 g G v w → t.ok2 g G v w'
  | .is _, _, h => h
  | .val _, _, h => h
  | .arr _ _, _, ⟨b, t, cs, hv, hb, hb2, hB, hc⟩ => ⟨b, t, cs, hv, hb, hb2, (hg.block b hB.lt hb hb2).trans hB, hc⟩
  | .elem _, _, ⟨b, i, x, hv, hb, hb2, hl, hc, hx⟩ => ⟨b, i, x, hv, hb, hb2, Nat.lt_of_lt_of_le hl hg.size, by rw [World.cell?_of_block (hg.block b hl hb hb2)]; exact hc, hx⟩
  | .any, _, _ => trivial
structure RdJ2 (w0 : World) (g G m : Nat) (k : Nat) (w : World) : Prop where
  rd : Rdr w g (m + k)
  gr : G2 w0 w g G
  gl : GlBlk w G
  lt : g < G
theorem RdJ2.up {w0 w : World} {g G m k : Nat} (h : RdJ2 w0 g G m k w) : RdJ2 w0 g G m (k + 1) w := ⟨h.rd.mono (by omega), h.gr, h.gl, h.lt⟩
theorem RdJ2.alloc {w0 w : World} {g G m k : Nat} (h : RdJ2 w0 g G m k w) (o : Obj) : RdJ2 w0 g G m k (w.alloc o) := ⟨h.rd.alloc o, g2alloc h.gr o, h.gl.alloc o, h.lt⟩
theorem RdJ2.zero {w : World} {g G m : Nat} (h : Rdr w g m) (hG : GlBlk w G) (hlt : g < G) : RdJ2 w g G m 0 w.drew := ⟨h.drew, g2of (gdrew (grefl _ _)), hG, hlt⟩
theorem j_pick2 {w0 w : World} {g G m k : Nat} {N : Int} (h : RdJ2 w0 g G m k w) (hm : m + k ≤ 1000000) (hN : 1 ≤ N) :
    Calls Try.prog 43 #[.pointer (some ⟨g, 0, none⟩), .int .i64 N] w fun e w' => ∃ x : Int, e = .returned (.int .i64 x) ∧ (0 ≤ x ∧ x ≤ N - 1) ∧ RdJ2 w0 g G m (k + 1) w' ∧ G2 w w' g G :=
  (r_pick g (m + k) N w h.rd hm).mono fun e w' ⟨x, he, hx, hr, hg⟩ => ⟨x, he, by omega, ⟨hr, g2trans h.gr (g2of hg), h.gl.grown hg (by have := h.lt; omega), h.lt⟩, g2of hg⟩
theorem wp_region_rd2 {id : Nat} {w : World} {l : List Oper} {a0 : Act} {Q : Exit → Act → World → Prop} {g G m : Nat} (ts : List Ty) (hm : Try.prog.follows .mixedOrders = true) (hB : tyOK .any l.toArray = true) (hJ : Rdr w g m) (hG : GlBlk w G) (hlt : g < G)
    (hob : Obl Try.prog .any l.toArray (fun i => (ts.getD i .any).ok2 g G) (RdJ2 w g G m) (fun w w' => G2 w w' g G) (fun v => putL l v 0 a0) l 0)
    (hend : ∀ v w', RdJ2 w g G m l.length w' → AllT (fun i => (ts.getD i .any).ok2 g G) v w' l.length → Q .normal (putL l v 0 a0) w') : (Code.region id l.toArray true).wp Try.prog Q a0 w :=
  wp_region_ty (fun i => (ts.getD i .any).ok2 g G) (RdJ2 w g G m) (fun w w' => G2 w w' g G) hm hB (fun _ _ h => h.up) (fun i _ _ _ hR h => Ty.keep2 (t := ts.getD i .any) hR h) (RdJ2.zero hJ hG hlt) hob hend
section ops
variable {ts : List Ty} {w0 : World} {g G m : Nat} {ops : Array Oper} {A : (Nat → Value) → Act} {i : Nat} {o : Oper}
/-- What is to be shown of one operation of such a region. -/
abbrev Ob2 (ts : List Ty) (w0 : World) (g G m : Nat) (ops : Array Oper) (A : (Nat → Value) → Act) (i : Nat) (o : Oper) : Prop :=
  OblOne Try.prog .any ops (fun i => (ts.getD i .any).ok2 g G) (RdJ2 w0 g G m) (fun w w' => G2 w w' g G) A i o
theorem dep_ok2 {v : Nat → Value} {w : World} (h : DepsOf .any (fun i => (ts.getD i .any).ok2 g G) v w o) (j : Nat) (hd : hasDep .any o j = true) {t : Ty} (ht : ts.getD j .any = t) : t.ok2 g G (v j) w := by
  subst ht; exact h j hd
/-- A number among the operands: a constant, or what an operation of the region has left. -/
structure Opd2 (ts : List Ty) (g G : Nat) (A : (Nat → Value) → Act) (o : Oper) (y : Operand) (p : Value → Prop) : Prop where
  out : ∀ v w, DepsOf .any (fun i => (ts.getD i .any).ok2 g G) v w o → p ((A v).eval y)
theorem opd_const2 {y : Operand} {p : Value → Prop} (u : Value) (e : ∀ v, (A v).eval y = u) (h : p u) : Opd2 ts g G A o y p := ⟨fun v w _ => by rw [e]; exact h⟩
theorem opd_dep2 {y : Operand} {p : Value → Prop} (j : Nat) (e : ∀ v, (A v).eval y = v j) (hd : hasDep .any o j = true) (ht : ts.getD j .any = .val p) : Opd2 ts g G A o y p := ⟨fun v w h => by
  rw [e]; exact dep_ok2 h j hd ht⟩
theorem opd_is2 {y : Operand} {p : Value → Prop} (j : Nat) (u : Value) (e : ∀ v, (A v).eval y = v j) (hd : hasDep .any o j = true) (ht : ts.getD j .any = .is u) (hp : p u) : Opd2 ts g G A o y p := ⟨fun v w h => by
  rw [e, show v j = u from dep_ok2 h j hd ht]; exact hp⟩
theorem opd_wide2 {y : Operand} {lo hi lo' hi' : Int} (h : Opd2 ts g G A o y (IsI lo hi)) (h1 : lo' ≤ lo) (h2 : hi ≤ hi') : Opd2 ts g G A o y (IsI lo' hi') := ⟨fun v w hd => by
  obtain ⟨x, e, a, b⟩ := h.out v w hd
  exact ⟨x, e, by omega, by omega⟩⟩
theorem ob_is2 {y : Operand} {u : Value} (ho : o.op = .move y ∨ o.op = .assign y) (hg : o.guard = none) (hi : ts.getD i .any = .is u) (e : ∀ v, (A v).eval y = u) : Ob2 ts w0 g G m ops A i o :=
  ob_run hg fun v k w _ hJ _ => ⟨u, w, by rcases ho with ho | ho <;> (unfold execOp; simp only [ho, e]; rfl), by show Ty.ok2 _ _ _ _ _; rw [hi]; exact rfl, hJ.up, g2refl _ _ _⟩
theorem ob_cp2 {y : Operand} (j : Nat) (ho : o.op = .move y ∨ o.op = .assign y) (hg : o.guard = none) (e : ∀ v, (A v).eval y = v j) (hd : hasDep .any o j = true) (hi : ts.getD i .any = ts.getD j .any) : Ob2 ts w0 g G m ops A i o :=
  ob_run hg fun v k w _ hJ hdep => ⟨v j, w, by rcases ho with ho | ho <;> (unfold execOp; simp only [ho, e]; rfl), by show Ty.ok2 _ _ _ _ _; rw [hi]; exact hdep j hd, hJ.up, g2refl _ _ _⟩
theorem ob_val2 {y : Operand} {p : Value → Prop} (ho : o.op = .move y ∨ o.op = .assign y) (hg : o.guard = none) (h : Opd2 ts g G A o y p) (hi : ts.getD i .any = .val p) : Ob2 ts w0 g G m ops A i o :=
  ob_run hg fun v k w _ hJ hdep => ⟨(A v).eval y, w, by rcases ho with ho | ho <;> (unfold execOp; simp only [ho]; rfl), by show Ty.ok2 _ _ _ _ _; rw [hi]; exact h.out v w hdep, hJ.up, g2refl _ _ _⟩
set_option maxRecDepth 100000 in
theorem ob_pick2 {y : Operand} {N hi' : Int} {aty : Array TypeId} (j : Nat) (ho : o.op = .call { callee := .value (.func 43), args := #[y, .const (.int .i64 N)], argTypes := aty }) (hg : o.guard = none)
    (e : ∀ v, (A v).eval y = v j) (hd : hasDep .any o j = true) (hj : ts.getD j .any = .is (.pointer (some ⟨g, 0, none⟩))) (hi : ts.getD i .any = .val (IsI 0 hi')) (hN : 1 ≤ N) (hhi : N - 1 ≤ hi') (hm : m + ops.size ≤ 1000000) : Ob2 ts w0 g G m ops A i o :=
  ob_call hg fun v k w hk hJ hdep => by
    have hp : v j = .pointer (some ⟨g, 0, none⟩) := dep_ok2 hdep j hd hj
    refine ⟨43, #[.pointer (some ⟨g, 0, none⟩), .int .i64 N], ?_, ?_⟩
    · unfold execOp
      simp only [ho]
      simp only [resolve, List.map_toArray, List.map_cons, List.map_nil, e, hp]
      rfl
    · refine (j_pick2 hJ (by omega) hN).mono ?_
      rintro e w' ⟨x, rfl, hx, hJ', hg'⟩
      exact ⟨_, rfl, by show Ty.ok2 _ _ _ _ _; rw [hi]; exact ⟨x, rfl, hx.1, by omega⟩, hJ', hg'⟩
theorem ob_arr2 {t el : TypeId} {n : Nat} {parts : Array (Nat × Operand)} {p : Value → Prop} (F : (Nat → Value) → List Value) (ho : o.op = .buildSlice t n parts) (hg : o.guard = none)
    (hu : Try.prog.underlying t = some (.slice el)) (hsz : (Try.prog.info? el).map (·.size) = some 1) (hz : ((Try.prog.info? el).bind (·.zero)).isSome = true)
    (e : ∀ v, (parts.map fun (i, x) => (i, (A v).eval x)).toList = ((F v).zipIdx 0).map fun x => (x.2, x.1)) (hl : ∀ v, (F v).length = n) (hn : 0 < n) (hn2 : n ≤ 1000) (hone : ∀ u, p u → u.cells = #[u])
    (hp : ∀ v w, DepsOf .any (fun i => (ts.getD i .any).ok2 g G) v w o → ∀ u ∈ F v, p u) (hi : ts.getD i .any = .arr n p) : Ob2 ts w0 g G m ops A i o :=
  ob_run hg fun v k w _ hJ hdep => by
    cases hie : Try.prog.info? el with
    | none => simp [hie] at hsz
    | some ie =>
      simp only [hie, Option.map_some, Option.some.injEq, Option.bind_some] at hsz hz
      obtain ⟨z, hzz⟩ := Option.isSome_iff_exists.1 hz
      have hpv := hp v w hdep
      have hrun := run_buildSlice (P := Try.prog) w t el n (parts.map fun (i, x) => (i, (A v).eval x)) (F v).toArray ie z hu hie hzz (by rw [hsz]; omega) (by rw [hsz]; omega) (by
        rw [e, hsz]
        exact Great.fill_flat _ _ (fun u hu => hone u (hpv u hu)) (by simp [hl]))
      refine ⟨_, _, by unfold execOp; simp only [ho, Sem.run_bind, hrun, Result.andThen_ok]; rfl, ?_, hJ.up.alloc _, g2alloc (g2refl _ _ _) _⟩
      show Ty.ok2 _ _ _ _ _
      rw [hi]
      refine ⟨_, el, _, rfl, ?_, ?_, Blk.new _ _ _, fun q hq => ?_⟩
      · have := hJ.rd.lt; omega
      · obtain ⟨_, _, _, _, hb⟩ := hJ.gl; have := hb.lt; omega
      · have hq' : q < (F v).length := by rw [hl]; exact hq
        exact ⟨(F v)[q], by simp [hq'], hpv _ (List.getElem_mem _)⟩
theorem ob_idx2 {t el : TypeId} {y z : Operand} {n : Nat} {p : Value → Prop} {hi' : Int} (j : Nat) (ho : o.op = .indexAddr t y z) (hg : o.guard = none)
    (e : ∀ v, (A v).eval y = v j) (hd : hasDep .any o j = true) (hj : ts.getD j .any = .arr n p) (hx : Opd2 ts g G A o z (IsI 0 hi')) (hn : hi' < n)
    (hu : Try.prog.underlying t = some (.slice el)) (hsz : (Try.prog.info? el).map (·.size) = some 1) (hi : ts.getD i .any = .elem p) : Ob2 ts w0 g G m ops A i o :=
  ob_run hg fun v k w _ hJ hdep => by
    have hp := dep_ok2 hdep j hd hj
    obtain ⟨b, tb, cs, hv, hb, hb2, hB, hc⟩ := hp
    obtain ⟨x, hx1, hx2, hx3⟩ := hx.out v w hdep
    obtain ⟨q, rfl⟩ := Int.eq_ofNat_of_zero_le hx2
    obtain ⟨u, hu1, hu2⟩ := hc q (by omega)
    refine ⟨.pointer (some ⟨b, q, none⟩), w, ?_, ?_, hJ.up, g2refl _ _ _⟩
    · unfold execOp
      simp only [ho, e, hv, hx1]
      cases hie : Try.prog.info? el with
      | none => simp [hie] at hsz
      | some ie =>
        simp only [hie, Option.map_some, Option.some.injEq] at hsz
        simp [Instr.indexAt, run_underlying hu, asIntOf, sizeOf, typeInfo, hie, hsz, show q < n by omega, add_lit']
    · show Ty.ok2 _ _ _ _ _
      rw [hi]
      exact ⟨b, q, u, rfl, hb, hb2, hB.lt, (hB.cell q).trans hu1, hu2⟩
theorem ob_load2 {t : TypeId} {y : Operand} {p : Value → Prop} (j : Nat) (ho : o.op = .load t y) (hg : o.guard = none)
    (e : ∀ v, (A v).eval y = v j) (hd : hasDep .any o j = true) (hj : ts.getD j .any = .elem p) (hld : ∀ (w : World) (a : Addr) (u : Value), w.cell? a = some u → p u → (Instr.loadAt t (.pointer (some a))).run Try.prog w = .ok u w)
    (hi : ts.getD i .any = .val p) : Ob2 ts w0 g G m ops A i o :=
  ob_run hg fun v k w _ hJ hdep => by
    have hp := dep_ok2 hdep j hd hj
    obtain ⟨b, q, u, hv, hb, hb2, hl, hc, hu⟩ := hp
    refine ⟨u, w, ?_, by show Ty.ok2 _ _ _ _ _; rw [hi]; exact hu, hJ.up, g2refl _ _ _⟩
    unfold execOp
    simp only [ho, e, hv, Sem.run_bind, hld w _ u hc hu, Result.andThen_ok]
    rfl

theorem ob_skip {P : Program} {md : Region.Mode} {T : Nat → Value → World → Prop} {J : Nat → World → Prop} {R : World → World → Prop} (hg : o.guard = none) (h : ∀ v k w, k < ops.size → J k w → DepsOf md T v w o → ∃ w', (execOp (A v).eval o).run P w = .ok .skip w' ∧ T i undef w' ∧ J (k + 1) w' ∧ R w w') : OblOne P md ops T J R A i o := by
  refine ⟨fun v k w hk hJ hd K hK => ?_⟩
  obtain ⟨w', hr, h1, h2, h3⟩ := h v k w hk hJ hd
  rw [if_pos (by simp [Region.wanted, hg])]
  unfold Oper.wp
  rw [hr]
  exact hK undef w' h1 h2 h3
theorem ob_glue3 {x y z : Operand} {a b c d e1 e2 : Int} (ho : o.op = .build 29 #[(0, x), (1, y), (3, z)]) (hg : o.guard = none) (h1 : Opd2 ts g G A o x (IsI a b)) (h2 : Opd2 ts g G A o y (IsI c d)) (h3 : Opd2 ts g G A o z (IsI e1 e2)) (hi : ts.getD i .any = .val IsGl) : Ob2 ts w0 g G m ops A i o :=
  ob_run hg fun v k w _ hJ hdep => by
    obtain ⟨p, q1, _, _⟩ := h1.out v w hdep
    obtain ⟨q, q2, _, _⟩ := h2.out v w hdep
    obtain ⟨r, q3, _, _⟩ := h3.out v w hdep
    refine ⟨.agg #[.int .i64 p, .int .i64 q, .int .i64 0, .int .i64 r], w, ?_, by show Ty.ok2 _ _ _ _ _; rw [hi]; exact ⟨_, _, _, _, rfl⟩, hJ.up, g2refl _ _ _⟩
    unfold execOp
    simp only [ho, List.map_toArray, List.map_cons, List.map_nil, q1, q2, q3]
    simp [go_sem]
theorem ob_store2 {y z : Operand} (j : Nat) (ho : o.op = .store 29 y z) (hg : o.guard = none) (e : ∀ v, (A v).eval y = .pointer (some ⟨G, 0, none⟩)) (e2 : ∀ v, (A v).eval z = v j)
    (hd : hasDep .any o j = true) (hj : ts.getD j .any = .val IsGl) (hi : ts.getD i .any = .any) : Ob2 ts w0 g G m ops A i o :=
  ob_skip hg fun v k w _ hJ hdep => by
    obtain ⟨a, b, c, d, hv⟩ : IsGl (v j) := dep_ok2 hdep j hd hj
    obtain ⟨p, q, r, s, hB⟩ := hJ.gl
    have c0 := hB.cell 0
    have c1 := hB.cell 1
    have c2 := hB.cell 2
    have c3 := hB.cell 3
    have f0 := hB.frozen 0
    have f1 := hB.frozen 1
    have f2 := hB.frozen 2
    have f3 := hB.frozen 3
    refine ⟨(((w.setCell ⟨G, 0, none⟩ (.int .i64 a)).setCell ⟨G, 1, none⟩ (.int .i64 b)).setCell ⟨G, 2, none⟩ (.int .i64 c)).setCell ⟨G, 3, none⟩ (.int .i64 d), ?_, by show Ty.ok2 _ _ _ _ _; rw [hi]; exact trivial, ?_, g2set (g2set (g2set (g2set (g2refl _ _ _) _) _) _) _⟩
    · unfold execOp
      simp only [ho, e, e2, hv]
      simp [go_sem, c0, c1, c2, c3, f0, f1, f2, f3]
    · refine ⟨((((hJ.rd.mono (Nat.le_succ _)).set (p := ⟨G, 0, none⟩) hJ.lt _).set (p := ⟨G, 1, none⟩) hJ.lt _).set (p := ⟨G, 2, none⟩) hJ.lt _).set (p := ⟨G, 3, none⟩) hJ.lt _, g2set (g2set (g2set (g2set hJ.gr _) _) _) _, ⟨a, b, c, d, ?_⟩, hJ.lt⟩
      have := (((hB.set_ 0 (.int .i64 a)).set_ 1 (.int .i64 b)).set_ 2 (.int .i64 c)).set_ 3 (.int .i64 d)
      simpa using this
end ops
end Go.Proofs.Ytlklkloadefihaa

namespace Go.Proofs.Ytlklkloadefihaa
open Go.RowKit
set_option linter.unusedVariables false

def joinB (a b : Int) : Bool := if a = 102 then (if b = 105 then true else if b = 106 then true else if b = 108 then true else decide (b = 102)) else false
def nearB (a b : Int) : Int := if (a = 118 ∨ a = 119 ∨ a = 121) ∧ (b = 97 ∨ b = 101 ∨ b = 111) ∨ a = 114 ∧ (b = 110 ∨ b = 109) then 1 else 0
theorem nearB_bd (a b : Int) : 0 ≤ nearB a b ∧ nearB a b ≤ 1 := by unfold nearB; split <;> omega
/-- It says no; or it says yes, and p. -/
def Says (p : Prop) (w : World) (e : Ending) (w' : World) : Prop := (e = .returned (.bool false) ∧ w' = w) ∨ (e = .returned (.bool true) ∧ p ∧ w' = w)
theorem Says.no {p : Prop} {w : World} : Says p w (.returned (.bool false)) w := .inl ⟨rfl, rfl⟩
theorem Says.yes {p : Prop} {w : World} (h : p) : Says p w (.returned (.bool true)) w := .inr ⟨rfl, h, rfl⟩

set_option maxHeartbeats 800000 in
theorem s_joins (a b : Int) (w : World) :
    Calls Try.prog 104 #[.int .u8 a, .int .u8 b] w fun e w' => e = .returned (.bool (joinB a b)) ∧ w' = w := by
  have H : Hid (joinB a b = if a = 102 then (if b = 105 then true else if b = 106 then true else if b = 108 then true else decide (b = 102)) else false) := rfl
  go_enter Try.func104, Try.ntmps104
  go_wp2
  all_goals
    go_ret
    rw [unhide H]
    clear H
    exact ⟨by first | (simp [*]; done) | (simp [*]; rw [Bool.eq_iff_iff]; simp [*]; done) | simp_all, rfl⟩
set_option maxHeartbeats 800000 in
theorem s_nearBy (a b : Int) (w : World) :
    Calls Try.prog 102 #[.int .u8 a, .int .u8 b] w fun e w' => e = .returned (.int .i64 (nearB a b)) ∧ w' = w := by
  have H : Hid (nearB a b = if (a = 118 ∨ a = 119 ∨ a = 121) ∧ (b = 97 ∨ b = 101 ∨ b = 111) ∨ a = 114 ∧ (b = 110 ∨ b = 109) then 1 else 0) := rfl
  go_enter Try.func102, Try.ntmps102
  go_wp2
  all_goals
    go_ret
    rw [unhide H]
    clear H
    exact ⟨by first | (simp [*]; done) | (simp [*]; rw [Bool.eq_iff_iff]; simp [*]; done) | simp_all, rfl⟩
set_option maxHeartbeats 800000 in
theorem s_letterWidth (a : Int) (w : World) :
    Calls Try.prog 101 #[.int .u8 a] w fun e w' => ∃ x : Int, e = .returned (.int .i64 x) ∧ 0 ≤ x ∧ x ≤ 8 ∧ w' = w := by
  go_enter Try.func101, Try.ntmps101
  go_wp2
  all_goals
    go_ret
    exact ⟨_, rfl, by omega, by omega, rfl⟩
set_option maxHeartbeats 800000 in
theorem s_wordValid (s : ByteArray) (hs : s.size ≤ 1000000) (w : World) :
    Calls Try.prog 95 #[.string s] w fun e w' => Says (1 ≤ s.size ∧ s.size ≤ 20) w e w' := by
  go_enter Try.func95, Try.ntmps95
  go_wp2
  go_loop [3] (fun i => ∃ k : Nat, k ≤ s.size ∧ i = .int .i64 k) (fun i => s.size - (intOf i).toNat)
  case atStart => exact ⟨0, Nat.zero_le _, rfl⟩
  case round =>
    obtain ⟨k, hk, rfl⟩ := hrel
    by_cases hlt : k < s.size
    · go_wp2
      all_goals
        first
        | (go_round
           case rel => exact ⟨k + 1, by omega, by go_num⟩
           case measure => simp [intOf]; omega)
        | (go_ret
           exact Says.no)
    · obtain rfl : k = s.size := by omega
      cases hin : inB (s.size : Int) 1 20
      all_goals
        go_wp2_with (go_at_call 47; refine (c_l1In _ _ _ _).mono ?_; rintro e w' ⟨rfl, rfl⟩)
        go_ret
        first
        | exact Says.no
        | exact Says.yes (by have := inB_iff.1 hin; omega)
set_option maxHeartbeats 1600000 in
theorem s_patternValid (s : ByteArray) (hs : s.size ≤ 1000000) (w : World) :
    Calls Try.prog 96 #[.string s] w fun e w' => Says (s.size ≤ 12) w e w' := by
  go_enter Try.func96, Try.ntmps96
  go_wp2
  go_loop [3, 4, 5] (fun l d i => ∃ (k L : Nat) (b : Bool), k ≤ s.size ∧ i = .int .i64 k ∧ l = .int .i64 L ∧ L ≤ k ∧ d = .bool b) (fun _ _ i => s.size - (intOf i).toNat)
  case atStart => exact ⟨0, 0, false, Nat.zero_le _, rfl, rfl, Nat.zero_le _, rfl⟩
  case round =>
    obtain ⟨k, L, b, hk, rfl, rfl, hL, rfl⟩ := hrel
    by_cases hlt : k < s.size
    · cases b
      all_goals
        go_wp2
        all_goals
          first
          | (go_round
             case rel => exact ⟨k + 1, L, _, by omega, by go_num, rfl, by omega, rfl⟩
             case measure => simp [intOf] <;> omega)
          | (go_round
             case rel => exact ⟨k + 1, L + 1, _, by omega, by go_num, by go_num, by omega, rfl⟩
             case measure => simp [intOf] <;> omega)
          | (go_ret
             exact Says.no)
    · obtain rfl : k = s.size := by omega
      by_cases h0 : 0 < L
      · by_cases h1 : s.size ≤ 12
        · have h2 : decide ((s.size : Int) ≤ 12) = true := decide_eq_true (by omega)
          go_wp2
          go_ret
          exact Says.yes (by first | exact h1 | exact True.intro)
        · have h2 : decide ((s.size : Int) ≤ 12) = false := decide_eq_false (by omega)
          go_wp2
          go_ret
          exact Says.no
      · obtain rfl : L = 0 := by omega
        go_wp2
        go_ret
        exact Says.no
end Go.Proofs.Ytlklkloadefihaa

namespace Go.Proofs.Ytlklkloadefihaa
open Go.RowKit
set_option linter.unusedVariables false

theorem infoStr : (Try.prog.info? 9).map (fun i => (i.zero, i.size, i.bytes)) = some (some (.string ⟨#[]⟩), 1, 16) := by kernel_rfl
def StrsAt (w : World) (A : Option Addr) (n c : Nat) (ss : List ByteArray) : Prop := Sl w A n c 1 (ss.map Value.string)
def OwnS (w : World) (B : Nat) (A : Option Addr) (c : Nat) (ss : List ByteArray) : Prop := w.ownsRow B 9 1 (.slice A ss.length c) ss.length (ss.map Value.string)
section
variable {w w' : World} {A : Option Addr} {n B c k : Nat} {ss : List ByteArray}
theorem StrsAt.len (h : StrsAt w A n c ss) : ss.length = n := by have := Rd.len h.1; simpa using this
theorem StrsAt.bd (h : StrsAt w A n c ss) : n ≤ c ∧ c ≤ 9223372036854775807 := h.2
theorem StrsAt.next (h : StrsAt w A n c ss) (hb : Below w.heap.size w w') : StrsAt w' A n c ss := Sl.next h hb
theorem StrsAt.at_ (h : StrsAt w A n c ss) (hk : k < n) : ∃ b off x, A = some ⟨b, off, none⟩ ∧ b < w.heap.size ∧ ss[k]? = some x ∧ w.cell? ⟨b, off + k, none⟩ = some (.string x) := by
  obtain ⟨b, off, e, hl, hc⟩ := Rd.cells h.1 (by omega)
  have hlen := h.len
  have hx : ss[k]? = some (ss[k]'(by omega)) := List.getElem?_eq_getElem (by omega)
  exact ⟨b, off, ss[k]'(by omega), e, hl, hx, hc k _ (by rw [List.getElem?_map, hx]; rfl)⟩
theorem OwnS.at_ (h : OwnS w B A c ss) : StrsAt w A ss.length c ss := Sl.of_own h
theorem OwnS.next (h : OwnS w B A c ss) (hb : Below w.heap.size w w') : OwnS w' B A c ss := own_next h hb
theorem OwnS.nil_ (w : World) (B : Nat) : OwnS w B none 0 [] := World.ownsRow_nil w B _ _
theorem OwnS.fresh (w : World) : OwnS (w.alloc (.cells #[] 9)) w.heap.size (some ⟨w.heap.size, 0, none⟩) 0 [] := World.ownsRow_made w #[] 0 (Nat.le_refl _) (Nat.zero_le _) rfl
theorem OwnS.of {v : Value} {n : Nat} (h : w.ownsRow B 9 1 v n (ss.map Value.string)) : ∃ A c, v = .slice A ss.length c ∧ n = ss.length ∧ OwnS w B A c ss := by
  have hn : n = ss.length := by have := h.1; simp at this; omega
  subst hn
  obtain ⟨A, c, rfl, _, _, _, _, h'⟩ := own_form h
  exact ⟨A, c, rfl, rfl, h'⟩
end
theorem wpList_push_S {ops : Array Oper} {rest : List Oper} {o : Oper} {a : Act} {Q : Exit → Act → World → Prop} {B : Nat} {w : World} {s x : Operand} {A : Option Addr} {c : Nat} {rs : List ByteArray} {H : Nat} (r : ByteArray) (hw : o.guard = none)
    (ho : o.op = .call { callee := .builtin .append, args := #[s, x], argTypes := #[92, 92] }) (hown : OwnS w B A c rs) (hs : a.eval s = .slice A rs.length c) (hx : a.eval x = .slice (some ⟨H, 0, none⟩) 1 1) (hH : w.heap.size = H) (hlen : rs.length ≤ 1000000000) (hB : B ≤ w.heap.size)
    (h : ∀ A' c' w', OwnS w' B A' c' (rs ++ [r]) → (w.alloc (.cells #[.string r] 9)).grownBy w' (Value.slice A rs.length c).ownBlock → (OwnS (w.alloc (.cells #[.string r] 9)) B A c rs) →
      (∀ g m, g < w.heap.size → (Value.slice A rs.length c).ownBlock ≠ some g → (Value.slice A' m c').ownBlock ≠ some g) → wpList Try.prog ops Q rest (a.put o.dst (.slice A' (rs.length + 1) c')) w') :
    wpList Try.prog ops Q (o :: rest) a (w.alloc (.cells #[.string r] 9)) := by
  subst hH
  obtain ⟨i0, hi, hz0, hz1, hz2⟩ := info_parts infoStr
  have ho2 : OwnS (w.alloc (.cells #[.string r] 9)) B A c rs := World.ownsRow.alloc hown _
  refine wpList_append_own_at _ hw s x 92 ho B 9 i0 _ 1 16 Try.underlying92 hi hz0 hz1 hz2 rfl (by decide) _ _ _ hs ho2 ⟨w.heap.size, 0, none⟩ 1 1 [.string r] hx rfl (by
      intro j u hj
      rw [add_lit', Nat.zero_add, (Blk.new w 9 #[.string r]).cell j]
      simpa using hj) (by intro u hu; simp at hu; subst hu; rfl) (by unfold maxLen; omega) (by omega) (by simp; omega) ?_
  intro v3 w3 hown3 hg3 _ hat
  have hown4 : w3.ownsRow B 9 1 v3 (rs.length + 1) ((rs ++ [r]).map Value.string) := by rw [List.map_append]; exact hown3
  obtain ⟨A4, c4, rfl, hl4, hown5⟩ := OwnS.of hown4
  have := h A4 c4 w3 hown5 hg3 ho2 (fun g m hg hne => by
    have e0 : (Value.slice A4 m c4).ownBlock = (Value.slice A4 (rs ++ [r]).length c4).ownBlock := by cases A4 <;> rfl
    rw [e0]
    rcases hat with e | e
    · rw [e]; exact hne
    · rw [e]; simp only [size_alloc']; intro e2; injection e2 with e2; omega)
  simpa using this
end Go.Proofs.Ytlklkloadefihaa

namespace Go.Proofs.Ytlklkloadefihaa
open Go.RowKit
set_option linter.unusedVariables false

theorem size_snoc {ss : List ByteArray} {lo hi : Nat} {t : ByteArray} (h : ∀ t ∈ ss, lo ≤ t.size ∧ t.size ≤ hi) (h2 : lo ≤ t.size ∧ t.size ≤ hi) : ∀ u ∈ ss ++ [t], lo ≤ u.size ∧ u.size ≤ hi := by
  intro u hu
  rcases List.mem_append.1 hu with hu | hu
  · exact h u hu
  · rw [List.mem_singleton.1 hu]; exact h2
set_option maxHeartbeats 800000 in
theorem s_patternsValid (A : Option Addr) (n c : Nat) (ss : List ByteArray) (w : World) (hR : StrsAt w A n c ss) (hs : ∀ s ∈ ss, s.size ≤ 1000) :
    Calls Try.prog 88 #[.slice A n c] w fun e w' => Says (n ≤ 20) w e w' := by
  have hbd := hR.bd
  go_enter Try.func88, Try.ntmps88
  go_wp2
  go_loop [3] (fun i => ∃ k : Nat, k ≤ n ∧ i = .int .i64 k) (fun i => n - (intOf i).toNat)
  case atStart => exact ⟨0, Nat.zero_le _, rfl⟩
  case round =>
    obtain ⟨k, hk, rfl⟩ := hrel
    by_cases hlt : k < n
    · obtain ⟨b, off, x, rfl, hbl, hx, hc⟩ := hR.at_ hlt
      have hxs := hs x (mem_of_get hx)
      clear hx
      go_wp2_with fail
      refine (s_patternValid x (by omega) w).mono ?_
      rintro e w' (⟨rfl, rfl⟩ | ⟨rfl, hp, rfl⟩)
      · go_wp2
        go_ret
        exact Says.no
      · go_wp2
        go_round
        case rel => exact ⟨k + 1, by omega, by go_num⟩
        case measure => simp [intOf]; omega
    · obtain rfl : n = k := by omega
      by_cases h1 : n ≤ 20
      · have h2 : decide ((n : Int) ≤ 20) = true := decide_eq_true (by omega)
        go_wp2
        go_ret
        exact Says.yes (by first | exact h1 | exact True.intro)
      · have h2 : decide ((n : Int) ≤ 20) = false := decide_eq_false (by omega)
        go_wp2
        go_ret
        exact Says.no
set_option maxHeartbeats 800000 in
theorem s_wordsValid (A : Option Addr) (n c : Nat) (ss : List ByteArray) (w : World) (hR : StrsAt w A n c ss) (hs : ∀ s ∈ ss, s.size ≤ 1000) :
    Calls Try.prog 87 #[.slice A n c] w fun e w' => Says (n ≤ 12) w e w' := by
  have hbd := hR.bd
  go_enter Try.func87, Try.ntmps87
  go_wp2
  go_loop [3] (fun i => ∃ k : Nat, k ≤ n ∧ i = .int .i64 k) (fun i => n - (intOf i).toNat)
  case atStart => exact ⟨0, Nat.zero_le _, rfl⟩
  case round =>
    obtain ⟨k, hk, rfl⟩ := hrel
    by_cases hlt : k < n
    · obtain ⟨b, off, x, rfl, hbl, hx, hc⟩ := hR.at_ hlt
      have hxs := hs x (mem_of_get hx)
      clear hx
      go_wp2_with fail
      refine (s_wordValid x (by omega) w).mono ?_
      rintro e w' (⟨rfl, rfl⟩ | ⟨rfl, hp, rfl⟩)
      · go_wp2
        go_ret
        exact Says.no
      · go_wp2
        go_round
        case rel => exact ⟨k + 1, by omega, by go_num⟩
        case measure => simp [intOf]; omega
    · obtain rfl : n = k := by omega
      by_cases h1 : n ≤ 12
      · have h2 : decide ((n : Int) ≤ 12) = true := decide_eq_true (by omega)
        go_wp2
        go_ret
        exact Says.yes (by first | exact h1 | exact True.intro)
      · have h2 : decide ((n : Int) ≤ 12) = false := decide_eq_false (by omega)
        go_wp2
        go_ret
        exact Says.no
set_option maxHeartbeats 1600000 in
theorem s_signsOf (s : ByteArray) (hs : s.size ≤ 1000) (w : World) :
    Calls Try.prog 100 #[.string s] w fun e w' => ∃ A' c' ss, e = .returned (.slice A' ss.length c') ∧ OwnS w' w.heap.size A' c' ss ∧ ss.length ≤ s.size ∧ (∀ t ∈ ss, 1 ≤ t.size ∧ t.size ≤ 2) ∧ Below w.heap.size w w' := by
  go_enter Try.func100, Try.ntmps100
  go_wp2
  go_loopw [3, 4] (fun o i wr => ∃ (k : Nat) (A' : Option Addr) (c' : Nat) (ss : List ByteArray), k ≤ s.size ∧ i = .int .i64 k ∧ o = .slice A' ss.length c' ∧ ss.length ≤ k ∧ (∀ t ∈ ss, 1 ≤ t.size ∧ t.size ≤ 2) ∧ OwnS wr w.heap.size A' c' ss ∧ Below w.heap.size w wr) (fun _ i _ => s.size - (intOf i).toNat)
  case atStart => exact ⟨0, _, _, [], Nat.zero_le _, rfl, rfl, Nat.zero_le _, by simp, OwnS.fresh w, bof _ _⟩
  case round =>
    obtain ⟨k, A', c', ss, hk, rfl, rfl, hl, hsz, hown, hb⟩ := hrel
    have hbs := hb.size
    by_cases hlt : k < s.size
    · go_wp2_with fail
      refine (s_wordValid s (by omega) wr).mono ?_
      rintro e w' (⟨rfl, rfl⟩ | ⟨rfl, hp, rfl⟩)
      · go_wp2
        go_ret
        exact ⟨_, _, _, rfl, hown, by omega, hsz, hb⟩
      · by_cases h1 : k + 1 < s.size
        · obtain ⟨k1, hk1⟩ : ∃ k1, k1 = k + 1 := ⟨_, rfl⟩
          have hw1 : IntKind.i64.wrap ((k : Int) + 1) = (k1 : Int) := by rw [hk1]; exact IntWalk.i64_in _ (by omega)
          have h1' : k1 < s.size := by omega
          have h2' : (k1 : Int) < (s.size : Int) := by omega
          have HK := hide hk1
          clear hk1
          go_wp2
          go_quiet ((go_at_call 104; exact Calls.quiet_of_same (s_joins _ _ _)))
          have O2 : OwnS (w'.drewN nq) w.heap.size A' c' ss := hown
          have B2 := bdrewN hb nq
          generalize hwq : World.drewN _ _ = wq at O2 B2 ⊢
          clear hwq hown hb hbs
          have hbs := B2.size
          generalize joinB _ _ = jb
          cases jb
          · have hk1 := unhide HK
            go_wp2_with (at_builtin; refine wpList_push_S (s.extract k (k + 1)) rfl rfl O2 rfl rfl rfl (by omega) (by omega) ?_; intro A3 c3 w3 O3 hg3 hpre _)
            have B3 := b_own (bmk B2 _) hpre (Nat.le_refl _) hg3
            clear hpre hg3 O2 B2
            go_wp2
            go_roundw
            case rel => exact ⟨k + 1, A3, c3, ss ++ [s.extract k (k + 1)], by omega, by go_num, by simp, by simp; omega, size_snoc hsz (by rw [ByteArray.size_extract]; omega), O3, B3⟩
            case measure => simp [intOf] <;> omega
          · have hk1 := unhide HK
            go_wp2_with (at_builtin; refine wpList_push_S (s.extract k (k + 2)) rfl rfl O2 rfl rfl rfl (by omega) (by omega) ?_; intro A3 c3 w3 O3 hg3 hpre _)
            have B3 := b_own (bmk B2 _) hpre (Nat.le_refl _) hg3
            clear hpre hg3 O2 B2
            go_wp2
            go_roundw
            case rel => exact ⟨k + 2, A3, c3, ss ++ [s.extract k (k + 2)], by omega, by go_num, by simp, by simp; omega, size_snoc hsz (by rw [ByteArray.size_extract]; omega), O3, B3⟩
            case measure => simp [intOf] <;> omega
        · have h2 : decide ((k : Int) + 1 < (s.size : Int)) = false := decide_eq_false (by omega)
          have h2' : ¬ (k : Int) + 1 < (s.size : Int) := by omega
          go_wp2
          go_quiet (fail)
          have O2 : OwnS (w'.drewN nq) w.heap.size A' c' ss := hown
          have B2 := bdrewN hb nq
          generalize hwq : World.drewN _ _ = wq at O2 B2 ⊢
          clear hwq hown hb hbs
          have hbs := B2.size
          go_wp2_with (at_builtin; refine wpList_push_S (s.extract k (k + 1)) rfl rfl O2 rfl rfl rfl (by omega) (by omega) ?_; intro A3 c3 w3 O3 hg3 hpre _)
          have B3 := b_own (bmk B2 _) hpre (Nat.le_refl _) hg3
          clear hpre hg3 O2 B2
          go_wp2
          go_roundw
          case rel => exact ⟨k + 1, A3, c3, ss ++ [s.extract k (k + 1)], by omega, by go_num, by simp, by simp; omega, size_snoc hsz (by rw [ByteArray.size_extract]; omega), O3, B3⟩
          case measure => simp [intOf] <;> omega
    · go_wp2
      go_ret
      exact ⟨_, _, _, rfl, hown, by omega, hsz, hb⟩
set_option maxHeartbeats 1600000 in
theorem s_wordWidth (s : ByteArray) (hs : s.size ≤ 1000) (w : World) :
    Calls Try.prog 98 #[.string s] w fun e w' => ∃ x : Int, e = .returned (.int .i64 x) ∧ Below w.heap.size w w' := by
  go_enter Try.func98, Try.ntmps98
  go_wp2_with fail
  refine (s_signsOf s hs w).mono ?_
  rintro e w1 ⟨A, c, ss, rfl, O, hl, hsz, hb⟩
  have hR := O.at_
  have hbd := hR.bd
  clear O
  obtain ⟨n, hn⟩ : ∃ n, n = ss.length := ⟨_, rfl⟩
  rw [← hn] at hR hbd hl ⊢
  have HN := hide hn
  clear hn
  by_cases h0 : n = 0
  · have h1 : ((n : Int) == 0) = true := by simp [h0]
    go_wp2
    go_ret
    exact ⟨_, rfl, hb⟩
  have h1 : ((n : Int) == 0) = false := by simp; omega
  go_wp2
  go_loopw [4, 5] (fun o i wr => ∃ (k : Nat) (x : Int), k ≤ n ∧ i = .int .i64 k ∧ o = .int .i64 x ∧ 0 ≤ x + 20 * (k : Int) ∧ x ≤ 20 * (k : Int) ∧ StrsAt wr A n c ss ∧ Below w.heap.size w wr) (fun _ i _ => n - (intOf i).toNat)
  case atStart => exact ⟨0, 0, Nat.zero_le _, rfl, rfl, by omega, by omega, hR, hb⟩
  case round =>
    clear hR hb
    obtain ⟨k, x, hk, rfl, rfl, hx0, hx1, hR, hb⟩ := hrel
    by_cases hlt : k < n
    · obtain ⟨b, off, t, rfl, hbl, ht, hc⟩ := hR.at_ hlt
      have hts := hsz t (mem_of_get ht)
      clear ht
      go_wp2
      go_loopw [4, 6] (fun o i wi => ∃ (j : Nat) (y : Int), j ≤ t.size ∧ i = .int .i64 j ∧ o = .int .i64 y ∧ 0 ≤ y + 20 * (k : Int) ∧ y ≤ 20 * (k : Int) + 8 * (j : Int) ∧ wi = wr) (fun _ i _ => t.size - (intOf i).toNat)
      case atStart => exact ⟨0, x, Nat.zero_le _, rfl, rfl, by omega, by omega, rfl⟩
      case round =>
        obtain ⟨j, y, hj, rfl, rfl, hy0, hy1, rfl⟩ := hrel
        by_cases hjt : j < t.size
        · go_wp2_with fail
          refine (s_letterWidth _ _).mono ?_
          rintro e w2 ⟨z, rfl, hz0, hz1, rfl⟩
          go_wp2
          go_roundw
          case rel => exact ⟨j + 1, y + z, by omega, by go_num, by go_num, by omega, by omega, by first | rfl | trivial⟩
          case measure => simp [intOf] <;> omega
        · have hjm : j = t.size := by omega
          by_cases hk1 : k + 1 < n
          · obtain ⟨k1, hk1'⟩ : ∃ k1, k1 = k + 1 := ⟨_, rfl⟩
            obtain ⟨b', off', t', he, hbl', ht', hc'⟩ := hR.at_ (k := k1) (by omega)
            simp only [Option.some.injEq, Addr.mk.injEq, and_true] at he
            obtain ⟨rfl, rfl⟩ := he
            have hts' := hsz t' (mem_of_get ht')
            clear ht'
            obtain ⟨l, hl1⟩ : ∃ l, l = t.size - 1 := ⟨_, rfl⟩
            have hw1 : IntKind.i64.wrap ((k : Int) + 1) = (k1 : Int) := by rw [hk1']; exact IntWalk.i64_in _ (by omega)
            have hw2 : IntKind.i64.wrap ((t.size : Int) - 1) = (l : Int) := by rw [IntWalk.i64_in _ (by omega)]; omega
            have hlt2 : l < t.size := by omega
            have hlt3 : 0 < t'.size := by omega
            have hk1n : k1 < n := by omega
            have HK := hide hk1'
            have HL := hide hl1
            have HJ := hide hjm
            clear hk1' hl1 hjm
            go_wp2
            go_quiet ((go_at_call 102; exact Calls.quiet_of_same (s_nearBy _ _ _)))
            have R2 : StrsAt (World.drewN wr nq) (some ⟨b, off, none⟩) n c ss := hR.next (bdrewN (Below.refl _ _) nq)
            have B2 := bdrewN hb nq
            generalize hwq : World.drewN _ _ = wq at R2 B2 ⊢
            generalize hz : nearB _ _ = z
            have hzb : 0 ≤ z ∧ z ≤ 1 := by rw [← hz]; exact nearB_bd _ _
            clear hwq hR hb hz
            go_wp2
            have hkk := unhide HK
            have hjj := unhide HJ
            have hq0 : 0 ≤ y - t.size + 1 - z + 20 * ((k1 : Nat) : Int) := by omega
            have hq1 : y - t.size + 1 - z ≤ 20 * ((k1 : Nat) : Int) := by omega
            go_roundw
            case rel => exact ⟨k1, y - t.size + 1 - z, by omega, by go_num, by (rw [wrap_ok (by omega)]), by first | exact hq0 | omega, hq1, R2, B2⟩
            case measure => simp [intOf] <;> omega
          · go_wp2
            go_roundw
            case rel => exact ⟨k + 1, y - t.size + 1, by omega, by go_num, by go_num, by omega, by omega, hR, hb⟩
            case measure => simp [intOf] <;> omega
    · go_wp2
      go_ret
      exact ⟨_, rfl, hb⟩
end Go.Proofs.Ytlklkloadefihaa

namespace Go.Proofs.Ytlklkloadefihaa
open Go.RowKit
set_option linter.unusedVariables false

theorem own_pick {w0 w w' : World} {g e sz n : Nat} {v : Value} {xs : List Value} (h : w.ownsRow w0.heap.size e sz v n xs) (hg : w.grownBy w' (some g)) (hgl : g < w0.heap.size) : w'.ownsRow w0.heap.size e sz v n xs :=
  h.kept hg (by
    cases hv : v.ownBlock with
    | none => exact .inl rfl
    | some b => exact .inr (fun e => by have := (h.lt b hv).1; injection e with e; omega))
theorem push_rdr {w0 w w' : World} {g m e sz n : Nat} {v : Value} {xs : List Value} (h : Rdr w g m) (ho : w.ownsRow w0.heap.size e sz v n xs) (hgl : g < w0.heap.size) (hg : w.grownBy w' v.ownBlock) : Rdr w' g m :=
  h.keep hg (fun k hk => Nat.lt_of_lt_of_le hgl (ho.lt k hk).1)
theorem push_grown {w0 w w' : World} {row : Option Nat} {e sz n : Nat} {v : Value} {xs : List Value} (h : w0.grownBy w row) (ho : w.ownsRow w0.heap.size e sz v n xs) (hg : w.grownBy w' v.ownBlock) : w0.grownBy w' row :=
  gown h hg (fun k hk => (ho.lt k hk).1)
/-- The state of a draw: the reader, and what has turned since w0. -/
structure DSt (w0 : World) (g m : Nat) (w : World) : Prop where
  rd : Rdr w g m
  gr : w0.grownBy w (some g)
  lt : g < w0.heap.size
section dst
variable {w0 w w' : World} {g m m' : Nat}
theorem DSt.begin_ (h : Rdr w g m) : DSt w g m w := ⟨h, grefl _ _, h.lt⟩
theorem DSt.pick (h : DSt w0 g m w) (hr : Rdr w' g m') (hg : w.grownBy w' (some g)) : DSt w0 g m' w' := ⟨hr, gtrans h.gr hg, h.lt⟩
theorem DSt.alloc (h : DSt w0 g m w) (o : Obj) : DSt w0 g m (w.alloc o) := ⟨h.rd.alloc o, galloc h.gr o, h.lt⟩
theorem DSt.more (h : DSt w0 g m w) (hm : m ≤ m') : DSt w0 g m' w := ⟨h.rd.mono hm, h.gr, h.lt⟩
theorem DSt.push (h : DSt w0 g m w) {e sz n : Nat} {v : Value} {xs : List Value} (ho : w.ownsRow w0.heap.size e sz v n xs) (hg : w.grownBy w' v.ownBlock) : DSt w0 g m w' := ⟨push_rdr h.rd ho h.lt hg, push_grown h.gr ho hg, h.lt⟩
theorem DSt.next (h : DSt w0 g m w) (hb : Below w.heap.size w w') : DSt w0 g m w' := ⟨h.rd.next hb, gtrans h.gr (gof hb), h.lt⟩
theorem DSt.drew (h : DSt w0 g m w) : DSt w0 g m w.drew := ⟨h.rd.drew, gdrew h.gr, h.lt⟩
end dst
theorem OwnI.pick {w0 w w' : World} {g c : Nat} {A : Option Addr} {rs : List Int} (h : OwnI w w0.heap.size A c rs) (hg : w.grownBy w' (some g)) (hgl : g < w0.heap.size) : OwnI w' w0.heap.size A c rs := own_pick h hg hgl
theorem OwnS.pick {w0 w w' : World} {g c : Nat} {A : Option Addr} {rs : List ByteArray} (h : OwnS w w0.heap.size A c rs) (hg : w.grownBy w' (some g)) (hgl : g < w0.heap.size) : OwnS w' w0.heap.size A c rs := own_pick h hg hgl
theorem wpList_push_I {ops : Array Oper} {rest : List Oper} {o : Oper} {a : Act} {Q : Exit → Act → World → Prop} {w0 w : World} {s x : Operand} {A : Option Addr} {c : Nat} {rs : List Int} (r : Int) (hw : o.guard = none)
    (ho : o.op = .call { callee := .builtin .append, args := #[s, x], argTypes := #[34, 34] }) (hown : OwnI w w0.heap.size A c rs) (hs : a.eval s = .slice A rs.length c) (hx : a.eval x = .slice (some ⟨w.heap.size, 0, none⟩) 1 1) (hlen : rs.length ≤ 1000000000) (hB : w0.heap.size ≤ w.heap.size)
    (h : ∀ A' c' w', OwnI w' w0.heap.size A' c' (rs ++ [r]) → (w.alloc (.cells #[.int .i64 r] 3)).grownBy w' (Value.slice A rs.length c).ownBlock → (OwnI (w.alloc (.cells #[.int .i64 r] 3)) w0.heap.size A c rs) → wpList Try.prog ops Q rest (a.put o.dst (.slice A' (rs.length + 1) c')) w') :
    wpList Try.prog ops Q (o :: rest) a (w.alloc (.cells #[.int .i64 r] 3)) := by
  obtain ⟨i0, hi, hz0, hz1, hz2⟩ := info_parts infoInt
  have ho2 : OwnI (w.alloc (.cells #[.int .i64 r] 3)) w0.heap.size A c rs := World.ownsRow.alloc hown _
  refine wpList_append_own _ hw s x 34 ho w0.heap.size 3 i0 _ 1 8 Try.underlying34 hi hz0 hz1 hz2 rfl (by decide) _ _ _ hs ho2 ⟨w.heap.size, 0, none⟩ 1 1 [.int .i64 r] hx rfl (one_new _ _ _) (one_one _) (by unfold maxLen; omega) (by omega) (by simp; omega) ?_
  intro v3 w3 hown3 hg3 _
  have hown4 : w3.ownsRow w0.heap.size 3 1 v3 (rs.length + 1) ((rs ++ [r]).map (Value.int .i64)) := by rw [List.map_append]; exact hown3
  obtain ⟨A4, c4, rfl, hl4, hown5⟩ := OwnI.of hown4
  have := h A4 c4 w3 hown5 hg3 ho2
  simpa using this

theorem OwnT.pick {w0 w w' : World} {g c : Nat} {A : Option Addr} {rs : List Item} (h : OwnT w w0.heap.size A c rs) (hg : w.grownBy w' (some g)) (hgl : g < w0.heap.size) : OwnT w' w0.heap.size A c rs := own_pick h hg hgl
theorem wpList_push_T {ops : Array Oper} {rest : List Oper} {o : Oper} {a : Act} {Q : Exit → Act → World → Prop} {w0 w : World} {s x : Operand} {A : Option Addr} {c : Nat} {rs : List Item} (r : Item) (hw : o.guard = none)
    (ho : o.op = .call { callee := .builtin .append, args := #[s, x], argTypes := #[23, 23] }) (hown : OwnT w w0.heap.size A c rs) (hs : a.eval s = .slice A rs.length c) (hx : a.eval x = .slice (some ⟨w.heap.size, 0, none⟩) 1 1) (hlen : rs.length ≤ 1000000000) (hB : w0.heap.size ≤ w.heap.size)
    (h : ∀ A' c' w', OwnT w' w0.heap.size A' c' (rs ++ [r]) → (w.alloc (.cells #[.int .i64 r.kind, .int .i64 r.w, .int .i64 r.st, .int .i64 r.sh, .int .i64 r.od, .int .i64 r.cost, .bool r.mark] 51)).grownBy w' (Value.slice A rs.length c).ownBlock → (OwnT (w.alloc (.cells #[.int .i64 r.kind, .int .i64 r.w, .int .i64 r.st, .int .i64 r.sh, .int .i64 r.od, .int .i64 r.cost, .bool r.mark] 51)) w0.heap.size A c rs) → wpList Try.prog ops Q rest (a.put o.dst (.slice A' (rs.length + 1) c')) w') :
    wpList Try.prog ops Q (o :: rest) a (w.alloc (.cells #[.int .i64 r.kind, .int .i64 r.w, .int .i64 r.st, .int .i64 r.sh, .int .i64 r.od, .int .i64 r.cost, .bool r.mark] 51)) := by
  obtain ⟨i0, hi, hz0, hz1, hz2⟩ := info_parts infoItem
  have ho2 : OwnT (w.alloc (.cells #[.int .i64 r.kind, .int .i64 r.w, .int .i64 r.st, .int .i64 r.sh, .int .i64 r.od, .int .i64 r.cost, .bool r.mark] 51)) w0.heap.size A c rs := World.ownsRow.alloc hown _
  refine wpList_append_own _ hw s x 23 ho w0.heap.size 51 i0 _ 7 56 Try.underlying23 hi hz0 hz1 hz2 rfl (by decide) _ _ _ hs ho2 ⟨w.heap.size, 0, none⟩ 1 1 [.int .i64 r.kind, .int .i64 r.w, .int .i64 r.st, .int .i64 r.sh, .int .i64 r.od, .int .i64 r.cost, .bool r.mark] hx rfl (cells_new_items _ _ _ _ _ _ _ _ _) (one_items r) (by unfold maxLen; omega) (by omega) (by simp; omega) ?_
  intro v3 w3 hown3 hg3 _
  have hown4 : w3.ownsRow w0.heap.size 51 7 v3 (rs ++ [r]).length ((rs ++ [r]).flatMap Item.cells) := by rw [flat_snoc_items]; simpa using hown3
  obtain ⟨A4, c4, rfl, hown5⟩ := OwnT.of hown4
  have := h A4 c4 w3 hown5 hg3 ho2
  simpa using this

def IntRow (w : World) (B g n : Nat) (xs : List Int) : Prop := w.ownsRow B 3 1 (.slice (some ⟨g, 0, none⟩) n n) n (xs.map (Value.int .i64))
section
variable {w w' : World} {B g n k : Nat} {xs : List Int}
theorem IntRow.len (h : IntRow w B g n xs) : xs.length = n := by have := h.1; simpa using this
theorem IntRow.cell {x : Int} (h : IntRow w B g n xs) (hx : xs[k]? = some x) : w.cell? ⟨g, k, none⟩ = some (.int .i64 x) := by
  have hk : k < n := by rw [← h.len]; exact get_lt hx
  rw [World.ownsRow.cellAt h k (by omega), List.getElem?_map, hx]; rfl
theorem IntRow.fz (h : IntRow w B g n xs) (k : Nat) : w.frozen? ⟨g, k, none⟩ = false := World.ownsRow.frozenAt h k
theorem IntRow.put (h : IntRow w B g n xs) (k : Nat) (y : Int) : IntRow (w.setCell ⟨g, k, none⟩ (.int .i64 y)) B g n (xs.set k y) := by
  have h1 := (World.ownsRow.stored h k (.int .i64 y)).1
  unfold IntRow; rw [List.map_set]; exact h1
theorem IntRow.lt (h : IntRow w B g n xs) : B ≤ g ∧ g < w.heap.size := World.ownsRow.lt h g rfl
theorem IntRow.next (h : IntRow w B g n xs) (hb : Below w.heap.size w w') : IntRow w' B g n xs := own_next h hb
theorem IntRow.far {p : Addr} (h : IntRow w B g n xs) (hp : g ≠ p.block) (u : Value) : IntRow (w.setCell p u) B g n xs :=
  World.ownsRow.kept h (gset (grefl w (some p.block)) (.inl rfl) u) (.inr (by simpa [Value.ownBlock] using hp))
theorem IntRow.kept {row : Option Nat} (h : IntRow w B g n xs) (hg : w.grownBy w' row) (hr : row ≠ some g) : IntRow w' B g n xs :=
  World.ownsRow.kept h hg (.inr (fun e => hr e.symm))
theorem IntRow.alloc (h : IntRow w B g n xs) (o : Obj) : IntRow (w.alloc o) B g n xs := World.ownsRow.alloc h o
theorem IntRow.drewN (h : IntRow w B g n xs) (k : Nat) : IntRow (w.drewN k) B g n xs := h
theorem IntRow.at_ (h : IntRow w B g n xs) (hn : n ≤ 1000000) : IntsAt w (some ⟨g, 0, none⟩) n n xs := Sl.of_own h
theorem IntRow.base {B' : Nat} (h : IntRow w B g n xs) (hB : B' ≤ B) : IntRow w B' g n xs := own_base h hB
end
/-- A write into such a row turns nothing that was there. -/
theorem b_put {w0 w : World} {g k : Nat} (h : Below w0.heap.size w0 w) (hg : w0.heap.size ≤ g) (u : Value) : Below w0.heap.size w0 (w.setCell ⟨g, k, none⟩ u) := h.setCell hg u
theorem set_get_ne {α : Type} {l : List α} {a z : Nat} {x y : α} (h : a ≠ z) (hx : l[z]? = some x) : (l.set a y)[z]? = some x := by rw [List.getElem?_set_ne h]; exact hx
theorem set_get_eq {α : Type} {l : List α} {a : Nat} {y : α} (h : a < l.length) : (l.set a y)[a]? = some y := by simp [h]
theorem made_ints (n : Nat) : (madeCells #[.int .i64 0] n).toList = (List.replicate n (0 : Int)).map (Value.int .i64) := by
  simp only [madeCells]
  apply List.ext_getElem
  · simp
  · intro i h1 h2
    simp [Nat.mod_one]
end Go.Proofs.Ytlklkloadefihaa
