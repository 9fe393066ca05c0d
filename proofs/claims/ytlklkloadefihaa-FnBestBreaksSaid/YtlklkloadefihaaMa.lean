/- Words and lemmas on memory and lists for the proofs of this seat: a slice that reads as a list of typed elements, kept over new blocks; rows owned by the call. · in and l1In: contracts. · Slices of int: contracts of the small functions of the laws that copy, compare, mark and add them. · Slices of Item: contracts of the small functions of the laws that copy, compare and mark them. · The builtins min and max of two numbers, at the operation: one way on. · Glue and items: when they are valid; contracts. · Glues and lines of items in plain words; laws of these words. · badness, looks and costs of lines: contracts. · An append onto a row of the call's own of whatever slice that reads as cells: nil, empty or not. · The law's own check of a fixed answer. · Slices of Placed: contracts of the small functions of the laws that copy, compare and mark them. No condition. -/
import Derived.WalkKit
import Derived.WalkSpells
import Derived.WalkLawsBesides
import Derived.Test.YtlklkloadefihaaRows
import Derived.Deep.QuietTactic
import Derived.BigQuiet
import Derived.Deep.RegionWith
import Derived.OwnWalk
import Derived.WalkArith
namespace Go.Proofs.Ytlklkloadefihaa
open Go.RowKit
set_option linter.unusedVariables false

/-! ### worlds -/
theorem hide {p : Prop} (h : p) : Hid p := h
theorem unhide {p : Prop} (h : Hid p) : p := h
theorem bnext {w0 w1 w2 : World} (h : Below w0.heap.size w0 w1) (h2 : Below w1.heap.size w1 w2) : Below w0.heap.size w0 w2 :=
  h.trans (h2.mono h.size)
theorem bmk {w0 w1 : World} (h : Below w0.heap.size w0 w1) (o : Obj) : Below w0.heap.size w0 (w1.alloc o) := h.alloc h.size o
theorem bof (w0 : World) (o : Obj) : Below w0.heap.size w0 (w0.alloc o) := (Below.refl _ _).alloc (Nat.le_refl _) o
theorem bdrewN {B : Nat} {a w : World} (h : Below B a w) (n : Nat) : Below B a (w.drewN n) := ⟨h.os, h.tape, h.output, h.size, h.block⟩
theorem size_alloc' (w : World) (o : Obj) : (w.alloc o).heap.size = w.heap.size + 1 := by simp

/-! ### lists -/
section lists
variable {α β : Type} {l : List α} {k : Nat} {r : α}
theorem take_snoc' (h : l[k]? = some r) : l.take (k + 1) = l.take k ++ [r] := by rw [List.take_add_one, h]; rfl
theorem get_lt (h : l[k]? = some r) : k < l.length := (List.getElem?_eq_some_iff.1 h).1
theorem mem_of_get (h : l[k]? = some r) : r ∈ l := List.mem_of_getElem? h
theorem all_snoc {p : α → Bool} (h : l[k]? = some r) (h1 : (l.take k).all p = true) (h2 : p r = true) : (l.take (k + 1)).all p = true := by
  rw [take_snoc' h, List.all_append, h1]; simp [h2]
theorem all_not {p : α → Bool} (h : l[k]? = some r) (h2 : p r = false) : l.all p = false := by
  rw [List.all_eq_false]; exact ⟨r, mem_of_get h, by simp [h2]⟩
theorem all_end {p : α → Bool} (hk : l.length ≤ k) (h1 : (l.take k).all p = true) : l.all p = true := by
  rwa [List.take_of_length_le hk] at h1
theorem foldl_snoc {f : β → α → β} {a : β} (h : l[k]? = some r) : (l.take (k + 1)).foldl f a = f ((l.take k).foldl f a) r := by
  rw [take_snoc' h, List.foldl_append]; rfl
theorem map_snoc {f : α → β} (h : l[k]? = some r) : (l.take (k + 1)).map f = (l.take k).map f ++ [f r] := by rw [take_snoc' h, List.map_append]; rfl
theorem flatMap_len {f : α → List β} {s : Nat} (hf : ∀ a, (f a).length = s) (l : List α) : (l.flatMap f).length = l.length * s := by
  induction l with
  | nil => simp
  | cons a t ih => rw [List.flatMap_cons, List.length_append, hf, ih, List.length_cons, Nat.add_mul]; omega
theorem flatMap_get {f : α → List β} {s : Nat} (hf : ∀ a, (f a).length = s) : ∀ (l : List α) (k j : Nat) (r : α), l[k]? = some r → j < s → (l.flatMap f)[k * s + j]? = (f r)[j]?
  | [], k, j, r, h, _ => by simp at h
  | a :: t, 0, j, r, h, hj => by
    simp at h; subst h
    rw [List.flatMap_cons, List.getElem?_append_left (by rw [hf]; omega)]; simp
  | a :: t, k + 1, j, r, h, hj => by
    rw [List.flatMap_cons, List.getElem?_append_right (by rw [hf, Nat.add_mul]; omega), hf]
    rw [show (k + 1) * s + j - s = k * s + j by rw [Nat.add_mul]; omega]
    exact flatMap_get hf t k j r (by simpa using h) hj
theorem flatMap_take {f : α → List β} {s : Nat} (hf : ∀ a, (f a).length = s) : ∀ (l : List α) (k : Nat), (l.take k).flatMap f = (l.flatMap f).take (k * s)
  | [], k => by simp
  | a :: t, 0 => by simp
  | a :: t, k + 1 => by
    have h1 : (f a).length ≤ (k + 1) * s := by rw [hf, Nat.add_mul]; omega
    rw [List.take_succ_cons, List.flatMap_cons, List.flatMap_cons, List.take_append, flatMap_take hf t k, List.take_of_length_le h1, hf]
    rw [show (k + 1) * s - s = k * s by rw [Nat.add_mul]; omega]
theorem flatMap_drop {f : α → List β} {s : Nat} (hf : ∀ a, (f a).length = s) : ∀ (l : List α) (k : Nat), (l.drop k).flatMap f = (l.flatMap f).drop (k * s)
  | [], k => by simp
  | a :: t, 0 => by simp
  | a :: t, k + 1 => by
    have h1 : (f a).length ≤ (k + 1) * s := by rw [hf, Nat.add_mul]; omega
    rw [List.drop_succ_cons, List.flatMap_cons, List.drop_append, flatMap_drop hf t k, List.drop_of_length_le h1, hf]
    rw [show (k + 1) * s - s = k * s by rw [Nat.add_mul]; omega]; rfl
end lists

/-! ### a slice that reads as cells -/
/-- The slice value '.slice A n c' of elements of sz cells each reads, in w, as the cells xs. -/
structure Rd (w : World) (A : Option Addr) (n sz : Nat) (xs : List Value) : Prop where
  len : xs.length = n * sz
  cells : 0 < n → ∃ b off, A = some ⟨b, off, none⟩ ∧ b < w.heap.size ∧ ∀ j u, xs[j]? = some u → w.cell? ⟨b, off + j, none⟩ = some u
section rd
variable {w w' : World} {A : Option Addr} {n sz : Nat} {xs : List Value}
theorem Rd.nil (w : World) (A : Option Addr) (sz : Nat) : Rd w A 0 sz [] := ⟨by simp, fun h => absurd h (by omega)⟩
theorem Rd.below {B : Nat} (h : Rd w A n sz xs) (hB : w.heap.size ≤ B) (hb : Below B w w') : Rd w' A n sz xs :=
  ⟨h.len, fun hn => by
    obtain ⟨b, off, e, hl, hc⟩ := h.cells hn
    exact ⟨b, off, e, Nat.lt_of_lt_of_le hl hb.size, fun j u hu => (hb.cell (p := ⟨b, off + j, none⟩) (Nat.lt_of_lt_of_le hl hB)).trans (hc j u hu)⟩⟩
theorem Rd.next (h : Rd w A n sz xs) (hb : Below w.heap.size w w') : Rd w' A n sz xs := h.below (Nat.le_refl _) hb
theorem Rd.alloc (h : Rd w A n sz xs) (o : Obj) : Rd (w.alloc o) A n sz xs := h.next (bof w o)
theorem Rd.drew (h : Rd w A n sz xs) : Rd w.drew A n sz xs := ⟨h.len, h.cells⟩
theorem Rd.drewN (h : Rd w A n sz xs) (k : Nat) : Rd (w.drewN k) A n sz xs := ⟨h.len, h.cells⟩
theorem add_lit' (b off j : Nat) : (⟨b, off, none⟩ : Addr).add j = ⟨b, off + j, none⟩ := by unfold Addr.add; split <;> simp_all
theorem Rd.of_own {B e c : Nat} (h : w.ownsRow B e sz (.slice A n c) n xs) : Rd w A n sz xs :=
  ⟨h.1, fun hn => by
    rcases h.2 with ⟨_, h0⟩ | ⟨g, cap, cur, hv, _, hh, _⟩
    · omega
    · have hA : A = some ⟨g, 0, none⟩ := by injection hv
      subst hA
      refine ⟨g, 0, rfl, (Array.getElem?_eq_some_iff.1 hh).1, fun j u hu => ?_⟩
      have := h.cells (g := g) rfl j u hu
      rwa [add_lit'] at this⟩
/-- What an owned row's value is. -/
theorem own_form {B e : Nat} {v : Value} (h : w.ownsRow B e sz v n xs) : ∃ A c, v = .slice A n c ∧ n ≤ c ∧ c ≤ maxLen ∧ Rd w A n sz xs ∧ (A = none ∨ ∃ g, A = some ⟨g, 0, none⟩ ∧ B ≤ g ∧ g < w.heap.size) ∧ w.ownsRow B e sz (.slice A n c) n xs := by
  have h' := h
  rcases h.2 with ⟨rfl, rfl⟩ | ⟨g, cap, cur, rfl, hg, hh, hn, hm, _⟩
  · exact ⟨none, 0, rfl, Nat.le_refl _, by unfold maxLen; omega, Rd.of_own h', .inl rfl, h'⟩
  · exact ⟨_, cap, rfl, hn, hm, Rd.of_own h', .inr ⟨g, rfl, hg, (Array.getElem?_eq_some_iff.1 hh).1⟩, h'⟩
/-- A part of a slice: from the element i up to the element j, as the model writes its address. -/
theorem Rd.cut {i j : Nat} (h : Rd w A n sz xs) (hi : i ≤ j) (hj : j ≤ n) : Rd w (A.map (·.add (i * sz))) (j - i) sz ((xs.drop (i * sz)).take ((j - i) * sz)) := by
  have hm : j * sz ≤ n * sz := Nat.mul_le_mul_right _ hj
  have hs : (j - i) * sz = j * sz - i * sz := Nat.sub_mul ..
  refine ⟨by rw [List.length_take, List.length_drop, h.len]; omega, fun hn => ?_⟩
  obtain ⟨b, off, rfl, hl, hc⟩ := h.cells (by omega)
  refine ⟨b, off + i * sz, by simp [add_lit'], hl, fun q u hu => ?_⟩
  rw [List.getElem?_take] at hu
  split at hu
  · rw [List.getElem?_drop] at hu
    have := hc _ u hu
    rwa [Nat.add_assoc]
  · cases hu
theorem Rd.take {k : Nat} (h : Rd w A n sz xs) (hk : k ≤ n) : Rd w A k sz (xs.take (k * sz)) := by
  have hm : k * sz ≤ n * sz := Nat.mul_le_mul_right _ hk
  refine ⟨by rw [List.length_take, h.len]; omega, fun hn => ?_⟩
  obtain ⟨b, off, rfl, hl, hc⟩ := h.cells (by omega)
  refine ⟨b, off, rfl, hl, fun q u hu => ?_⟩
  rw [List.getElem?_take] at hu
  split at hu
  · exact hc _ u hu
  · cases hu
theorem Rd.congrA {A' : Option Addr} (h : Rd w A n sz xs) (e : 0 < n → A' = A) : Rd w A' n sz xs :=
  ⟨h.len, fun hn => by rw [e hn]; exact h.cells hn⟩
end rd

/-- The slice value '.slice A n c' reads as the cells xs (n elements of sz cells each), and its capacity is one. -/
def Sl (w : World) (A : Option Addr) (n c sz : Nat) (xs : List Value) : Prop := Rd w A n sz xs ∧ n ≤ c ∧ c ≤ 9223372036854775807
section sl
variable {w w' : World} {A : Option Addr} {n c sz : Nat} {xs : List Value}
theorem Sl.bd (h : Sl w A n c sz xs) : n ≤ c ∧ c ≤ 9223372036854775807 := h.2
theorem Sl.next (h : Sl w A n c sz xs) (hb : Below w.heap.size w w') : Sl w' A n c sz xs := ⟨h.1.next hb, h.2⟩
theorem Sl.below {B : Nat} (h : Sl w A n c sz xs) (hB : w.heap.size ≤ B) (hb : Below B w w') : Sl w' A n c sz xs := ⟨h.1.below hB hb, h.2⟩
theorem Sl.of_own {B e : Nat} (h : w.ownsRow B e sz (.slice A n c) n xs) : Sl w A n c sz xs := by
  refine ⟨Rd.of_own h, ?_⟩
  rcases h.2 with ⟨hv, rfl⟩ | ⟨g, cap, cur, hv, _, _, hn, hm, _⟩
  · injection hv with _ _ hc; subst hc; omega
  · injection hv with _ _ hc; subst hc; unfold maxLen at hm; exact ⟨hn, hm⟩
end sl

/-! ### rows of the call's own -/
theorem own_next {w w' : World} {B e sz n : Nat} {v : Value} {xs : List Value} (h : w.ownsRow B e sz v n xs) (hb : Below w.heap.size w w') : w'.ownsRow B e sz v n xs :=
  h.kept (row := none) ⟨hb.os, hb.tape, hb.output, hb.size, fun i hi _ => hb.block i hi⟩ (by cases hv : v.ownBlock <;> simp)
theorem own_base {w : World} {B B' e sz n : Nat} {v : Value} {xs : List Value} (h : w.ownsRow B e sz v n xs) (hB : B' ≤ B) : w.ownsRow B' e sz v n xs := by
  refine ⟨h.1, ?_⟩
  rcases h.2 with h | ⟨g, cap, cur, hv, hg, r⟩
  · exact .inl h
  · exact .inr ⟨g, cap, cur, hv, Nat.le_trans hB hg, r⟩
/-- What was owned before another row was made is another block. -/
theorem own_apart {w1 w2 : World} {B1 B2 e1 e2 s1 s2 n1 n2 : Nat} {v1 v2 : Value} {xs1 xs2 : List Value} (h1 : w1.ownsRow B1 e1 s1 v1 n1 xs1) (h2 : w2.ownsRow B2 e2 s2 v2 n2 xs2) (hle : w1.heap.size ≤ B2) :
    v1.ownBlock = none ∨ v1.ownBlock ≠ v2.ownBlock := by
  cases hv : v1.ownBlock with
  | none => exact .inl rfl
  | some g =>
    refine .inr (fun e => ?_)
    have a := (h1.lt g hv).2
    have b := (h2.lt g e.symm).1
    omega
theorem own_apart' {w1 w2 : World} {B1 B2 e1 e2 s1 s2 n1 n2 : Nat} {v1 v2 : Value} {xs1 xs2 : List Value} (h1 : w1.ownsRow B1 e1 s1 v1 n1 xs1) (h2 : w2.ownsRow B2 e2 s2 v2 n2 xs2) (hle : w1.heap.size ≤ B2) :
    v2.ownBlock = none ∨ v2.ownBlock ≠ v1.ownBlock := by
  cases hv : v2.ownBlock with
  | none => exact .inl rfl
  | some g =>
    refine .inr (fun e => ?_)
    have a := (h1.lt g e.symm).2
    have b := (h2.lt g hv).1
    omega
/-- A write into a row that was made behind the world w0 turns nothing that was there. -/
theorem b_own {w0 w w' : World} {B e sz n : Nat} {v : Value} {xs : List Value} (h : Below w0.heap.size w0 w) (ho : w.ownsRow B e sz v n xs) (hB : w0.heap.size ≤ B) (hg : w.grownBy w' v.ownBlock) : Below w0.heap.size w0 w' :=
  h.grown hg h.size (fun k hk => Nat.le_trans hB (ho.lt k hk).1)

/-! ### slices of int -/
def IntsAt (w : World) (A : Option Addr) (n c : Nat) (xs : List Int) : Prop := Sl w A n c 1 (xs.map (Value.int .i64))
section ints
variable {w w' : World} {A : Option Addr} {n c k : Nat} {xs : List Int}
theorem IntsAt.len (h : IntsAt w A n c xs) : xs.length = n := by have := Rd.len h.1; simpa using this
theorem IntsAt.bd (h : IntsAt w A n c xs) : n ≤ c ∧ c ≤ 9223372036854775807 := h.2
theorem IntsAt.at_ (h : IntsAt w A n c xs) (hk : k < n) : ∃ b off x, A = some ⟨b, off, none⟩ ∧ b < w.heap.size ∧ xs[k]? = some x ∧ w.cell? ⟨b, off + k, none⟩ = some (.int .i64 x) := by
  obtain ⟨b, off, e, hl, hc⟩ := Rd.cells h.1 (by omega)
  have hlen := h.len
  have hx : xs[k]? = some (xs[k]'(by omega)) := List.getElem?_eq_getElem (by omega)
  exact ⟨b, off, xs[k]'(by omega), e, hl, hx, hc k _ (by rw [List.getElem?_map, hx]; rfl)⟩
theorem IntsAt.next (h : IntsAt w A n c xs) (hb : Below w.heap.size w w') : IntsAt w' A n c xs := Sl.next h hb
theorem IntsAt.below {B : Nat} (h : IntsAt w A n c xs) (hB : w.heap.size ≤ B) (hb : Below B w w') : IntsAt w' A n c xs := Sl.below h hB hb
theorem IntsAt.nil (w : World) (A : Option Addr) (c : Nat) (hc : c ≤ 9223372036854775807) : IntsAt w A 0 c [] := ⟨Rd.nil _ _ _, Nat.zero_le _, hc⟩
end ints
/-! ### a code -/
def BytesAt (w : World) (A : Option Addr) (n : Nat) (xs : List Int) : Prop := Rd w A n 1 (xs.map (Value.int .u8)) ∧ ∀ x ∈ xs, 0 ≤ x ∧ x ≤ 255
section bytes
variable {w w' : World} {A : Option Addr} {n k : Nat} {xs : List Int}
theorem BytesAt.len (h : BytesAt w A n xs) : xs.length = n := by have := Rd.len h.1; simpa using this
theorem BytesAt.at_ (h : BytesAt w A n xs) (hk : k < n) : ∃ b off x, A = some ⟨b, off, none⟩ ∧ b < w.heap.size ∧ 0 ≤ x ∧ x ≤ 255 ∧ w.cell? ⟨b, off + k, none⟩ = some (.int .u8 x) := by
  obtain ⟨b, off, e, hl, hc⟩ := Rd.cells h.1 (by omega)
  have hlen := h.len
  have hx : xs[k]? = some (xs[k]'(by omega)) := List.getElem?_eq_getElem (by omega)
  exact ⟨b, off, xs[k]'(by omega), e, hl, (h.2 _ (List.getElem_mem _)).1, (h.2 _ (List.getElem_mem _)).2, hc k _ (by rw [List.getElem?_map, hx]; rfl)⟩
end bytes
/-- A slice of bytes in a code: what a law is handed. -/
def CodeAt (w : World) (A : Option Addr) (n c : Nat) (xs : List Int) : Prop := BytesAt w A n xs ∧ n ≤ c ∧ c ≤ maxLen
theorem CodeAt.next {w w' : World} {A : Option Addr} {n c : Nat} {xs : List Int} (h : CodeAt w A n c xs) (hb : Below w.heap.size w w') : CodeAt w' A n c xs := ⟨⟨h.1.1.next hb, h.1.2⟩, h.2⟩

theorem drop_get {α : Type} {l : List α} {k : Nat} {r : α} (h : l[k]? = some r) : l.drop k = r :: l.drop (k + 1) := by
  obtain ⟨hk, rfl⟩ := List.getElem?_eq_some_iff.1 h
  exact List.drop_eq_getElem_cons hk
theorem drop_end {α : Type} {l : List α} {k : Nat} (h : l.length ≤ k) : l.drop k = [] := List.drop_eq_nil_of_le h
theorem take_set {α : Type} {ys : List α} {k : Nat} (hk : k < ys.length) (u : α) : (ys.set k u).take (k + 1) = ys.take k ++ [u] := by
  rw [List.take_add_one, List.take_set_of_le (Nat.le_refl _)]
  simp [hk]
theorem wrap_ok {a : Int} (h : -9223372036854775808 ≤ a ∧ a ≤ 9223372036854775807) : wrap64 a = a := IntWalk.wrap64_in a h

/-! ### a block that is known whole -/
def Blk (w : World) (g : Nat) (t : TypeId) (cs : Array Value) : Prop := w.heap[g]? = some (.cells cs t (0, 0))
section blk
variable {w w' : World} {g : Nat} {t : TypeId} {cs : Array Value}
theorem Blk.lt (h : Blk w g t cs) : g < w.heap.size := (Array.getElem?_eq_some_iff.1 h).1
theorem Blk.cell (h : Blk w g t cs) (i : Nat) : w.cell? ⟨g, i, none⟩ = cs[i]? := cell_of_row w g i cs t (0, 0) h
theorem Blk.frozen (h : Blk w g t cs) (i : Nat) : w.frozen? ⟨g, i, none⟩ = false := frozen_of_row w g i cs t h
theorem Blk.new (w : World) (t : TypeId) (cs : Array Value) : Blk (w.alloc (.cells cs t)) w.heap.size t cs := heap_alloc_new w _
theorem Blk.alloc (h : Blk w g t cs) (o : Obj) : Blk (w.alloc o) g t cs := (Below.heap_alloc w o g h.lt).trans h
theorem Blk.set_ (h : Blk w g t cs) (i : Nat) (u : Value) : Blk (w.setCell ⟨g, i, none⟩ u) g t (cs.setIfInBounds i u) := heap_setCell_same w g i cs t u h
theorem Blk.far (h : Blk w g t cs) {p : Addr} (hp : g ≠ p.block) (u : Value) : Blk (w.setCell p u) g t cs := (Below.heap_setCell w p u g hp).trans h
theorem Blk.grown {row : Option Nat} (h : Blk w g t cs) (hb : w.grownBy w' row) (hg : some g ≠ row) : Blk w' g t cs := (hb.block g h.lt hg).trans h
theorem Blk.next (h : Blk w g t cs) (hb : Below w.heap.size w w') : Blk w' g t cs := (hb.block g h.lt).trans h
theorem Blk.drew (h : Blk w g t cs) : Blk w.drew g t cs := h
end blk
#print axioms Rd.cut
end Go.Proofs.Ytlklkloadefihaa

namespace Go.Proofs.Ytlklkloadefihaa
open Go.RowKit
set_option linter.unusedVariables false

def inB (n lo hi : Int) : Bool := decide (lo ≤ n) && decide (n ≤ hi)
theorem inB_iff {n lo hi : Int} : inB n lo hi = true ↔ lo ≤ n ∧ n ≤ hi := by simp [inB]
theorem inB_not {n lo hi : Int} : inB n lo hi = false ↔ n < lo ∨ hi < n := by rw [← Bool.not_eq_true, inB_iff]; omega
set_option maxHeartbeats 400000 in
theorem c_in (n lo hi : Int) (w : World) :
    Calls Try.prog 45 #[.int .i64 n, .int .i64 lo, .int .i64 hi] w fun e w' => e = .returned (.bool (inB n lo hi)) ∧ w = w' := by
  by_cases h1 : lo ≤ n
  all_goals
    go_enter Try.func45, Try.ntmps45
    go_wp2
    go_ret
    exact ⟨by simp [inB, *]; try omega, rfl⟩
set_option maxHeartbeats 400000 in
theorem c_l1In (n lo hi : Int) (w : World) :
    Calls Try.prog 47 #[.int .i64 n, .int .i64 lo, .int .i64 hi] w fun e w' => e = .returned (.bool (inB n lo hi)) ∧ w = w' := by
  by_cases h1 : lo ≤ n
  all_goals
    go_enter Try.func47, Try.ntmps47
    go_wp2
    go_ret
    exact ⟨by simp [inB, *]; try omega, rfl⟩
theorem c_in_b {n lo hi : Int} {b : Bool} (h : inB n lo hi = b) (w : World) :
    Calls Try.prog 45 #[.int .i64 n, .int .i64 lo, .int .i64 hi] w fun e w' => e = .returned (.bool b) ∧ w' = w := by
  rw [← h]; exact (c_in n lo hi w).mono (by rintro e w' ⟨rfl, rfl⟩; exact ⟨rfl, rfl⟩)
theorem c_l1In_b {n lo hi : Int} {b : Bool} (h : inB n lo hi = b) (w : World) :
    Calls Try.prog 47 #[.int .i64 n, .int .i64 lo, .int .i64 hi] w fun e w' => e = .returned (.bool b) ∧ w' = w := by
  rw [← h]; exact (c_l1In n lo hi w).mono (by rintro e w' ⟨rfl, rfl⟩; exact ⟨rfl, rfl⟩)
end Go.Proofs.Ytlklkloadefihaa

namespace Go.Proofs.Ytlklkloadefihaa
open Go.RowKit
set_option linter.unusedVariables false

theorem infoInt : (Try.prog.info? 3).map (fun i => (i.zero, i.size, i.bytes)) = some (some (.int .i64 0), 1, 8) := by kernel_rfl
/-- A slice of int that the call itself made, with its elements. -/
def OwnI (w : World) (B : Nat) (A : Option Addr) (c : Nat) (xs : List Int) : Prop := w.ownsRow B 3 1 (.slice A xs.length c) xs.length (xs.map (Value.int .i64))
section owni
variable {w w' : World} {A : Option Addr} {B c : Nat} {xs : List Int}
theorem OwnI.at_ (h : OwnI w B A c xs) : IntsAt w A xs.length c xs := Sl.of_own h
theorem OwnI.next (h : OwnI w B A c xs) (hb : Below w.heap.size w w') : OwnI w' B A c xs := own_next h hb
theorem OwnI.of {v : Value} {n : Nat} (h : w.ownsRow B 3 1 v n (xs.map (Value.int .i64))) : ∃ A c, v = .slice A xs.length c ∧ n = xs.length ∧ OwnI w B A c xs := by
  have hl : n = xs.length := by have := h.1; simp at this; omega
  subst hl
  obtain ⟨A, c, rfl, _, _, _, _, h'⟩ := own_form h
  exact ⟨A, c, rfl, rfl, h'⟩
theorem OwnI.nil_ (w : World) (B : Nat) : OwnI w B none 0 [] := World.ownsRow_nil w B _ _
end owni

theorem one_new (w : World) (t : TypeId) (a0 : Value) : ∀ j u, [a0][j]? = some u → (w.alloc (.cells #[a0] t)).cell? ((⟨w.heap.size, 0, none⟩ : Addr).add j) = some u := by
  intro j u hj
  match j, hj with
  | 0, hj => simp at hj; subst hj; exact (Blk.new w t #[a0]).cell 0
theorem one_one (x : Int) : ∀ u ∈ [Value.int .i64 x], u.oneCell' = true := by
  intro u hu; simp at hu; subst hu; rfl



/-- The numbers k, k + 1, .. that a mark leaves. -/
def marks (k : Int) (n : Nat) : List Int := (List.range n).map fun (i : Nat) => k + (i : Int)
theorem marks_len (k : Int) (n : Nat) : (marks k n).length = n := by simp [marks]
theorem marks_get {k : Int} {n i : Nat} (h : i < n) : (marks k n)[i]? = some (k + (i : Int)) := by simp [marks, h]
theorem marks_snoc (k : Int) (n : Nat) : marks k (n + 1) = marks k n ++ [k + (n : Int)] := by simp [marks, List.range_succ]

theorem marks_atIntS {w : World} {B c n : Nat} {A : Option Addr} {k : Int} (h : OwnI w B A c (marks k n)) : IntsAt w A n c (marks k n) := by
  have h' := h.at_; rwa [marks_len] at h'



set_option maxHeartbeats 400000 in
theorem c_sameInts (A A' : Option Addr) (n n' c c' : Nat) (xs ys : List Int) (w : World) (h1 : IntsAt w A n c xs) (h2 : IntsAt w A' n' c' ys) :
    Calls Try.prog 20 #[.slice A n c, .slice A' n' c'] w fun e w' => e = .returned (.bool (decide (xs = ys))) ∧ Below w.heap.size w w' := by
  have hl1 := h1.len
  have hl2 := h2.len
  have hbd := h1.bd
  have hbd2 := h2.bd
  by_cases hn : n = n'
  · subst hn
    go_enter Try.func20, Try.ntmps20
    go_wp2
    go_loopw [5] (fun i wr => ∃ k : Nat, k ≤ n ∧ i = .int .i64 k ∧ xs.take k = ys.take k ∧ Below w.heap.size w wr) (fun i _ => n - (intOf i).toNat)
    case atStart => exact ⟨0, Nat.zero_le _, rfl, rfl, Below.refl _ _⟩
    case round =>
      obtain ⟨k, hk, rfl, hv, hbel⟩ := hrel
      have HV := hide hv
      clear hv
      by_cases hlt : k < n
      · obtain ⟨b, off, x, rfl, hb, hx, hc⟩ := (h1.next hbel).at_ hlt
        obtain ⟨b', off', y, rfl, hb', hy, hc'⟩ := (h2.next hbel).at_ hlt
        have HX := hide hx
        have HY := hide hy
        clear hx hy hl1 hl2
        by_cases hxy : x = y
        · subst hxy
          have hne : (x != x) = false := by simp
          go_wp2
          go_quiet (fail)
          go_wp2
          go_roundw
          case rel => exact ⟨k + 1, by omega, by go_num, by rw [take_snoc' (unhide HX), take_snoc' (unhide HY), unhide HV], by first | exact bdrewN hbel _ | exact hbel.drew⟩
          case measure => simp [intOf]; omega
        · have hne : (x != y) = true := by simp [hxy]
          go_wp2
          go_quiet (fail)
          go_wp2
          go_ret
          refine ⟨?_, by first | exact bdrewN hbel _ | exact hbel.drew⟩
          have hd : xs ≠ ys := fun e => by subst e; have a := unhide HX; rw [unhide HY] at a; injection a with a; exact hxy a.symm
          simp [hd]
      · have hd : xs = ys := by
          have hv := unhide HV
          rwa [List.take_of_length_le (by omega), List.take_of_length_le (by omega)] at hv
        have HD := hide hd
        clear hd hl1 hl2
        go_wp2
        go_ret
        exact ⟨by simp [unhide HD], hbel⟩
  · have hne : ((n : Int) != (n' : Int)) = true := by simp; omega
    have hd : xs ≠ ys := fun e => hn (by rw [← hl1, ← hl2, e])
    clear hl1 hl2
    go_enter Try.func20, Try.ntmps20
    go_wp2
    go_ret
    exact ⟨by simp [hd], Below.refl _ _⟩

theorem c_sameInts_same (A A' : Option Addr) (n n' c c' : Nat) (xs : List Int) (w : World) (h1 : IntsAt w A n c xs) (h2 : IntsAt w A' n' c' xs) :
    Calls Try.prog 20 #[.slice A n c, .slice A' n' c'] w fun e w' => e = .returned (.bool true) ∧ Below w.heap.size w w' :=
  (c_sameInts A A' n n' c c' xs xs w h1 h2).mono fun _ _ ⟨he, hb⟩ => ⟨by rw [he, decide_eq_true rfl], hb⟩

end Go.Proofs.Ytlklkloadefihaa

namespace Go.Proofs.Ytlklkloadefihaa
open Go.RowKit
set_option linter.unusedVariables false

structure Item where
  kind : Int
  w : Int
  st : Int
  sh : Int
  od : Int
  cost : Int
  mark : Bool
  deriving DecidableEq
def Item.cells (r : Item) : List Value := [.int .i64 r.kind, .int .i64 r.w, .int .i64 r.st, .int .i64 r.sh, .int .i64 r.od, .int .i64 r.cost, .bool r.mark]
theorem Item.cells_len (r : Item) : r.cells.length = 7 := rfl
def ItemsAt (w : World) (A : Option Addr) (n c : Nat) (rs : List Item) : Prop := Sl w A n c 7 (rs.flatMap Item.cells)
section items
variable {w w' : World} {A : Option Addr} {n c k : Nat} {rs : List Item}
theorem ItemsAt.len (h : ItemsAt w A n c rs) : rs.length = n := by
  have := Rd.len h.1; rw [flatMap_len Item.cells_len] at this; omega
theorem ItemsAt.next (h : ItemsAt w A n c rs) (hb : Below w.heap.size w w') : ItemsAt w' A n c rs := Sl.next h hb
theorem ItemsAt.below {B : Nat} (h : ItemsAt w A n c rs) (hB : w.heap.size ≤ B) (hb : Below B w w') : ItemsAt w' A n c rs := Sl.below h hB hb
theorem ItemsAt.bd (h : ItemsAt w A n c rs) : n ≤ c ∧ c ≤ 9223372036854775807 := h.2
theorem ItemsAt.at_ (h : ItemsAt w A n c rs) (hk : k < n) : ∃ b off r, A = some ⟨b, off, none⟩ ∧ b < w.heap.size ∧ rs[k]? = some r ∧ w.cell? ⟨b, off + k * 7, none⟩ = some (.int .i64 r.kind) ∧ w.cell? ⟨b, off + k * 7 + 1, none⟩ = some (.int .i64 r.w) ∧ w.cell? ⟨b, off + k * 7 + 2, none⟩ = some (.int .i64 r.st) ∧ w.cell? ⟨b, off + k * 7 + 3, none⟩ = some (.int .i64 r.sh) ∧ w.cell? ⟨b, off + k * 7 + 4, none⟩ = some (.int .i64 r.od) ∧ w.cell? ⟨b, off + k * 7 + 5, none⟩ = some (.int .i64 r.cost) ∧ w.cell? ⟨b, off + k * 7 + 6, none⟩ = some (.bool r.mark) := by
  obtain ⟨b, off, e, hl, hc⟩ := Rd.cells h.1 (by omega)
  have hlen := h.len
  have hx : rs[k]? = some (rs[k]'(by omega)) := List.getElem?_eq_getElem (by omega)
  have hg := fun j hj => flatMap_get Item.cells_len rs k j _ hx hj
  refine ⟨b, off, _, e, hl, hx, ?_, ?_, ?_, ?_, ?_, ?_, ?_⟩
  · exact hc (k * 7 + 0) _ (hg 0 (by omega))
  · exact hc (k * 7 + 1) _ (hg 1 (by omega))
  · exact hc (k * 7 + 2) _ (hg 2 (by omega))
  · exact hc (k * 7 + 3) _ (hg 3 (by omega))
  · exact hc (k * 7 + 4) _ (hg 4 (by omega))
  · exact hc (k * 7 + 5) _ (hg 5 (by omega))
  · exact hc (k * 7 + 6) _ (hg 6 (by omega))
end items
theorem infoItem : (Try.prog.info? 51).map (fun i => (i.zero, i.size, i.bytes)) = some (some (.agg #[.int .i64 0, .int .i64 0, .int .i64 0, .int .i64 0, .int .i64 0, .int .i64 0, .bool false]), 7, 56) := by kernel_rfl
theorem flat_snoc_items (rs : List Item) (r : Item) : (rs ++ [r]).flatMap Item.cells = rs.flatMap Item.cells ++ [.int .i64 r.kind, .int .i64 r.w, .int .i64 r.st, .int .i64 r.sh, .int .i64 r.od, .int .i64 r.cost, .bool r.mark] := by simp [Item.cells]
theorem cells_new_items (w : World) (t : TypeId) (a0 a1 a2 a3 a4 a5 a6 : Value) : ∀ j u, [a0, a1, a2, a3, a4, a5, a6][j]? = some u → (w.alloc (.cells #[a0, a1, a2, a3, a4, a5, a6] t)).cell? ((⟨w.heap.size, 0, none⟩ : Addr).add j) = some u := by
  intro j u hj
  rw [add_lit', Nat.zero_add, (Blk.new w t #[a0, a1, a2, a3, a4, a5, a6]).cell j]
  simpa using hj
theorem one_items (r : Item) : ∀ u ∈ ([.int .i64 r.kind, .int .i64 r.w, .int .i64 r.st, .int .i64 r.sh, .int .i64 r.od, .int .i64 r.cost, .bool r.mark] : List Value), u.oneCell' = true := by
  intro u hu; simp at hu; rcases hu with rfl | rfl | rfl | rfl | rfl | rfl | rfl <;> rfl
/-- A slice that the call itself made, with its elements. -/
def OwnT (w : World) (B : Nat) (A : Option Addr) (c : Nat) (rs : List Item) : Prop := w.ownsRow B 51 7 (.slice A rs.length c) rs.length (rs.flatMap Item.cells)
section ownitems
variable {w w' : World} {A : Option Addr} {B c : Nat} {rs : List Item}
theorem OwnT.at_ (h : OwnT w B A c rs) : ItemsAt w A rs.length c rs := Sl.of_own h
theorem OwnT.next (h : OwnT w B A c rs) (hb : Below w.heap.size w w') : OwnT w' B A c rs := own_next h hb
theorem OwnT.of {v : Value} (h : w.ownsRow B 51 7 v rs.length (rs.flatMap Item.cells)) : ∃ A c, v = .slice A rs.length c ∧ OwnT w B A c rs := by
  obtain ⟨A, c, rfl, _, _, _, _, h'⟩ := own_form h
  exact ⟨A, c, rfl, h'⟩
end ownitems
theorem take_set_items {ys : List Value} {j : Nat} (hj : j + 6 < ys.length) (a0 a1 a2 a3 a4 a5 a6 : Value) : (((((((ys.set j a0).set (j + 1) a1).set (j + 2) a2).set (j + 3) a3).set (j + 4) a4).set (j + 5) a5).set (j + 6) a6).take (j + 7) = ys.take j ++ [a0, a1, a2, a3, a4, a5, a6] := by
  rw [show j + 7 = j + 6 + 1 from rfl, take_set (by simp; omega), show j + 6 = j + 5 + 1 from rfl, take_set (by simp; omega), show j + 5 = j + 4 + 1 from rfl, take_set (by simp; omega), show j + 4 = j + 3 + 1 from rfl, take_set (by simp; omega), show j + 3 = j + 2 + 1 from rfl, take_set (by simp; omega), show j + 2 = j + 1 + 1 from rfl, take_set (by simp; omega), take_set (by omega)]
  simp
theorem flat_take_snoc_items {rs : List Item} {k : Nat} {r : Item} (h : rs[k]? = some r) : (rs.take (k + 1)).flatMap Item.cells = (rs.take k).flatMap Item.cells ++ [.int .i64 r.kind, .int .i64 r.w, .int .i64 r.st, .int .i64 r.sh, .int .i64 r.od, .int .i64 r.cost, .bool r.mark] := by
  rw [take_snoc' h, flat_snoc_items]






/-- The element that a mark leaves from the number q on. -/
def markItem (q : Int) : Item := ⟨q, q + 1, q + 1 + 1, q + 1 + 1 + 1, q + 1 + 1 + 1 + 1, q + 1 + 1 + 1 + 1 + 1, (q + 1 + 1 + 1 + 1 + 1 + 1) % 3 == 0⟩
def marksItem (k : Int) (n : Nat) : List Item := (List.range n).map fun (i : Nat) => markItem (k + 7 * (i : Int))
theorem marksItem_len (k : Int) (n : Nat) : (marksItem k n).length = n := by simp [marksItem]
theorem marksItem_get {k : Int} {n i : Nat} (h : i < n) : (marksItem k n)[i]? = some (markItem (k + 7 * (i : Int))) := by simp [marksItem, h]
theorem marksItem_snoc (k : Int) (n : Nat) : marksItem k (n + 1) = marksItem k n ++ [markItem (k + 7 * (n : Int))] := by simp [marksItem, List.range_succ]
theorem marks_atItemS {w : World} {B c n : Nat} {A : Option Addr} {k : Int} (h : OwnT w B A c (marksItem k n)) : ItemsAt w A n c (marksItem k n) := by
  have h' := h.at_; rwa [marksItem_len] at h'


end Go.Proofs.Ytlklkloadefihaa


namespace Go.Proofs.Ytlklkloadefihaa
open Go.RowKit
set_option linter.unusedVariables false

theorem wpList_min {P : Program} {ops : Array Oper} {rest : List Oper} {o : Oper} {a : Act} {Q : Exit → Act → World → Prop} {w : World} {s x : Operand} {ts : Array TypeId} {p q : Int} (hw : o.guard = none)
    (ho : o.op = .call { callee := .builtin .min, args := #[s, x], argTypes := ts }) (hs : a.eval s = .int .i64 p) (hx : a.eval x = .int .i64 q)
    (h : wpList P ops Q rest (a.put o.dst (.int .i64 (min p q))) w) : wpList P ops Q (o :: rest) a w := by
  refine wpList_plain hw fun K hK => ?_
  have hrun : (execOp a.eval o).run P w = .ok (.value (.int .i64 (min p q))) w := by
    unfold execOp
    simp only [ho, resolve, List.map_toArray, List.map_cons, List.map_nil, hs, hx]
    simp [go_sem]
    try (simp only [Int.min_def]; split <;> first | rfl | omega | (split <;> first | rfl | omega))
  unfold Oper.wp
  rw [hrun]
  exact hK _ _ h
theorem wpList_max {P : Program} {ops : Array Oper} {rest : List Oper} {o : Oper} {a : Act} {Q : Exit → Act → World → Prop} {w : World} {s x : Operand} {ts : Array TypeId} {p q : Int} (hw : o.guard = none)
    (ho : o.op = .call { callee := .builtin .max, args := #[s, x], argTypes := ts }) (hs : a.eval s = .int .i64 p) (hx : a.eval x = .int .i64 q)
    (h : wpList P ops Q rest (a.put o.dst (.int .i64 (max p q))) w) : wpList P ops Q (o :: rest) a w := by
  refine wpList_plain hw fun K hK => ?_
  have hrun : (execOp a.eval o).run P w = .ok (.value (.int .i64 (max p q))) w := by
    unfold execOp
    simp only [ho, resolve, List.map_toArray, List.map_cons, List.map_nil, hs, hx]
    simp [go_sem]
    try (simp only [Int.max_def]; split <;> first | rfl | omega | (split <;> first | rfl | omega))
  unfold Oper.wp
  rw [hrun]
  exact hK _ _ h
end Go.Proofs.Ytlklkloadefihaa

namespace Go.Proofs.Ytlklkloadefihaa
open Go.RowKit
set_option linter.unusedVariables false

def glueB (w st sh od : Int) : Bool := inB w 0 1000 && (inB st 0 1000 && (inB sh 0 w && inB od 0 1))
def isCostB (c : Int) : Bool := inB c 0 10000 || (c == -10000)
def Item.rigid (r : Item) : Bool := decide (r.st = 0) && (decide (r.sh = 0) && decide (r.od = 0))
def Item.bare (r : Item) : Bool := decide (r.cost = 0) && !r.mark
def itemValid (r : Item) : Bool :=
  glueB r.w r.st r.sh r.od && (if r.kind = 1 then r.rigid && r.bare else if r.kind = 2 then r.bare else if r.kind = 3 then r.rigid && isCostB r.cost else false)
def itemsValid (rs : List Item) : Bool := rs.all itemValid && decide (rs.length ≤ 60)
theorem itemsValid_iff {rs : List Item} : itemsValid rs = true ↔ rs.all itemValid = true ∧ rs.length ≤ 60 := by simp [itemsValid]

set_option maxHeartbeats 400000 in
theorem c_glueValid (x st sh od : Int) (w : World) :
    Calls Try.prog 51 #[.agg #[.int .i64 x, .int .i64 st, .int .i64 sh, .int .i64 od]] w fun e w' => e = .returned (.bool (glueB x st sh od)) ∧ Below w.heap.size w w' := by
  cases h1 : inB x 0 1000 <;> cases h2 : inB st 0 1000 <;> cases h3 : inB sh 0 x
  all_goals
    go_enter Try.func51, Try.ntmps51
    go_wp2_with (go_at_call 45; refine (c_in _ _ _ _).mono ?_; rintro e w' ⟨rfl, rfl⟩)
    go_ret
    exact ⟨by simp [glueB, *], bof _ _⟩
set_option maxHeartbeats 400000 in
theorem c_glueValid' (x st sh od : Int) (w : World) :
    Calls Try.prog 93 #[.agg #[.int .i64 x, .int .i64 st, .int .i64 sh, .int .i64 od]] w fun e w' => e = .returned (.bool (glueB x st sh od)) ∧ Below w.heap.size w w' := by
  cases h1 : inB x 0 1000 <;> cases h2 : inB st 0 1000 <;> cases h3 : inB sh 0 x
  all_goals
    go_enter Try.func93, Try.ntmps93
    go_wp2_with (go_at_call 47; refine (c_l1In _ _ _ _).mono ?_; rintro e w' ⟨rfl, rfl⟩)
    go_ret
    exact ⟨by simp [glueB, *], bof _ _⟩
set_option maxHeartbeats 400000 in
theorem c_isBad (n : Int) (w : World) :
    Calls Try.prog 78 #[.int .i64 n] w fun e w' => e = .returned (.bool (inB n 0 10000)) ∧ w = w' := by
  go_enter Try.func78, Try.ntmps78
  go_wp2_with (go_at_call 45; refine (c_in _ _ _ _).mono ?_; rintro e w' ⟨rfl, rfl⟩)
  go_ret
  exact ⟨rfl, rfl⟩
set_option maxHeartbeats 400000 in
theorem c_isCost (n : Int) (w : World) :
    Calls Try.prog 94 #[.int .i64 n] w fun e w' => e = .returned (.bool (isCostB n)) ∧ w = w' := by
  cases h1 : inB n 0 10000
  all_goals
    go_enter Try.func94, Try.ntmps94
    go_wp2_with (go_at_call 78; refine (c_isBad _ _).mono ?_; rintro e w' ⟨rfl, rfl⟩)
    go_ret
    exact ⟨by simp [isCostB, *], rfl⟩
end Go.Proofs.Ytlklkloadefihaa

namespace Go.Proofs.Ytlklkloadefihaa
open Go.RowKit
set_option linter.unusedVariables false

/-! ### glues -/
structure Gl where
  w : Int
  st : Int
  sh : Int
  od : Int
  deriving DecidableEq
def Gl.ok (g : Gl) : Bool := glueB g.w g.st g.sh g.od
theorem Gl.ok_iff {g : Gl} : g.ok = true ↔ (0 ≤ g.w ∧ g.w ≤ 1000) ∧ (0 ≤ g.st ∧ g.st ≤ 1000) ∧ (0 ≤ g.sh ∧ g.sh ≤ g.w) ∧ 0 ≤ g.od ∧ g.od ≤ 1 := by
  simp [Gl.ok, glueB, inB]
def gHas (g : Gl) : Bool := decide (g.od = 1) && decide (0 < g.st)
def gAny (l : List Gl) : Bool := l.any gHas
def gOd (l : List Gl) : Int := if gAny l then 1 else 0
def gW (l : List Gl) : Int := (l.map Gl.w).sum
def gSh (l : List Gl) : Int := (l.map Gl.sh).sum
def gPart (o : Int) (g : Gl) : Int := if g.od = o then g.st else 0
def gSt (o : Int) (l : List Gl) : Int := (l.map (gPart o)).sum
def gTot (l : List Gl) : Gl := ⟨gW l, gSt (gOd l) l, gSh l, gOd l⟩
theorem gAny_snoc (l : List Gl) (g : Gl) : gAny (l ++ [g]) = (gAny l || gHas g) := by simp [gAny]
theorem gW_snoc (l : List Gl) (g : Gl) : gW (l ++ [g]) = gW l + g.w := by simp [gW]
theorem gSh_snoc (l : List Gl) (g : Gl) : gSh (l ++ [g]) = gSh l + g.sh := by simp [gSh]
theorem gSt_snoc (o : Int) (l : List Gl) (g : Gl) : gSt o (l ++ [g]) = gSt o l + gPart o g := by simp [gSt]
theorem gPart_bd {o : Int} {g : Gl} (h : g.ok = true) : 0 ≤ gPart o g ∧ gPart o g ≤ 1000 := by
  rw [Gl.ok_iff] at h; unfold gPart; split <;> omega
theorem gl_bd {f : Gl → Int} (hf : ∀ g, g.ok = true → 0 ≤ f g ∧ f g ≤ 1000) : ∀ (l : List Gl), l.all Gl.ok = true → 0 ≤ (l.map f).sum ∧ (l.map f).sum ≤ 1000 * l.length
  | [], _ => by simp
  | g :: t, h => by
    rw [List.all_cons, Bool.and_eq_true] at h
    have a := hf g h.1
    have b := gl_bd hf t h.2
    simp only [List.map_cons, List.sum_cons, List.length_cons]
    omega
theorem gW_bd {l : List Gl} (h : l.all Gl.ok = true) : 0 ≤ gW l ∧ gW l ≤ 1000 * l.length := gl_bd (fun g hg => by rw [Gl.ok_iff] at hg; omega) l h
theorem gSh_bd {l : List Gl} (h : l.all Gl.ok = true) : 0 ≤ gSh l ∧ gSh l ≤ 1000 * l.length := gl_bd (fun g hg => by rw [Gl.ok_iff] at hg; omega) l h
theorem gSt_bd {o : Int} {l : List Gl} (h : l.all Gl.ok = true) : 0 ≤ gSt o l ∧ gSt o l ≤ 1000 * l.length := gl_bd (fun g hg => gPart_bd hg) l h
theorem gSh_le : ∀ {l : List Gl}, l.all Gl.ok = true → gSh l ≤ gW l
  | [], _ => by simp [gSh, gW]
  | g :: t, h => by
    rw [List.all_cons, Bool.and_eq_true] at h
    have a := Gl.ok_iff.1 h.1
    have b := gSh_le (l := t) h.2
    simp only [gSh, gW, List.map_cons, List.sum_cons] at b ⊢
    omega
theorem gSt_none : ∀ {l : List Gl}, l.all Gl.ok = true → gAny l = false → gSt 1 l = 0
  | [], _, _ => by simp [gSt]
  | g :: t, h, hn => by
    rw [List.all_cons, Bool.and_eq_true] at h
    have a := Gl.ok_iff.1 h.1
    simp only [gAny, List.any_cons, Bool.or_eq_false_iff] at hn
    have b := gSt_none (l := t) h.2 hn.2
    have c : gPart 1 g = 0 := by
      have := hn.1
      simp only [gHas, Bool.and_eq_false_iff, decide_eq_false_iff_not] at this
      unfold gPart; split <;> omega
    simp only [gSt, List.map_cons, List.sum_cons, c] at b ⊢
    omega
theorem gSt_some : ∀ {l : List Gl}, l.all Gl.ok = true → gAny l = true → 0 < gSt 1 l
  | [], _, hn => by simp [gAny] at hn
  | g :: t, h, hn => by
    rw [List.all_cons, Bool.and_eq_true] at h
    have a := Gl.ok_iff.1 h.1
    have p := gPart_bd (o := 1) h.1
    have q := gSt_bd (o := 1) h.2
    simp only [gAny, List.any_cons, Bool.or_eq_true] at hn
    simp only [gSt, List.map_cons, List.sum_cons] at q ⊢
    rcases hn with hn | hn
    · have c : gPart 1 g = g.st := by
        simp only [gHas, Bool.and_eq_true, decide_eq_true_eq] at hn
        unfold gPart; rw [if_pos hn.1]
      simp only [gHas, Bool.and_eq_true, decide_eq_true_eq] at hn
      omega
    · have b := gSt_some (l := t) h.2 hn
      simp only [gSt] at b
      omega
/-- The sum of two glues, as the reference reckons it. -/
def gAdd (a b : Gl) : Gl :=
  let x := if a.st = 0 then 0 else a.od
  let y := if b.st = 0 then 0 else b.od
  let o := max x y
  ⟨a.w + b.w, (if x = o then a.st else 0) + (if y = o then b.st else 0), a.sh + b.sh, o⟩
theorem gAdd_tot {l : List Gl} {g : Gl} (h : l.all Gl.ok = true) (hg : g.ok = true) : gAdd (gTot l) g = gTot (l ++ [g]) := by
  have a := Gl.ok_iff.1 hg
  have hod : g.od = 0 ∨ g.od = 1 := by omega
  simp only [gAdd, gTot, gOd, gAny_snoc, gW_snoc, gSh_snoc, gSt_snoc, Gl.mk.injEq, true_and]
  have b0 := gSt_bd (o := 0) h
  have m01 : max (0 : Int) 1 = 1 := rfl
  have m10 : max (1 : Int) 0 = 1 := rfl
  rcases (Bool.eq_false_or_eq_true (gAny l)).symm with hn | hn <;> simp only [hn]
  · have z := gSt_none h hn
    rcases hod with ho | ho
    · have hh : gHas g = false := by simp [gHas, ho]
      have hm : max (0 : Int) 0 = 0 := rfl
      simp [hh, ho, gPart, hm]
    · by_cases hs : g.st = 0
      · have hh : gHas g = false := by simp [gHas, hs]
        simp [hh, hs, gPart, ho]
      · have hh : gHas g = true := by simp [gHas, ho]; omega
        simp [hh, hs, gPart, ho, z, m01]
  · have z := gSt_some h hn
    have hz : ¬ gSt 1 l = 0 := by omega
    rcases hod with ho | ho
    · simp [ho, gPart, hz, m10]
    · by_cases hs : g.st = 0
      · simp [hs, gPart, ho, hz, m10]
      · simp [hs, gPart, ho, hz]

/-! ### lines -/
def Item.gl (r : Item) : Gl := ⟨r.w, r.st, r.sh, r.od⟩
def forcedB (r : Item) : Bool := decide (r.kind = 3) && decide (r.cost = -10000)
def skipB (r : Item) : Bool := !decide (r.kind = 1) && !forcedB r
def itAt (rs : List Item) (n : Nat) : Item := rs.getD n ⟨0, 0, 0, 0, 0, 0, false⟩
theorem itAt_of {rs : List Item} {n : Nat} {r : Item} (h : rs[n]? = some r) : itAt rs n = r := by simp [itAt, h]
theorem get_itAt {rs : List Item} {n : Nat} (h : n < rs.length) : rs[n]? = some (itAt rs n) := by simp [itAt, h]
def startOf (rs : List Item) (k : Nat) : Nat := k + ((rs.drop k).takeWhile skipB).length
theorem startOf_end {rs : List Item} {k : Nat} (h : rs.length ≤ k) : startOf rs k = k := by simp [startOf, List.drop_eq_nil_of_le h]
theorem startOf_stop {rs : List Item} {k : Nat} {r : Item} (h : rs[k]? = some r) (hs : skipB r = false) : startOf rs k = k := by
  simp [startOf, drop_get h, hs]
theorem startOf_go {rs : List Item} {k : Nat} {r : Item} (h : rs[k]? = some r) (hs : skipB r = true) : startOf rs k = startOf rs (k + 1) := by
  simp [startOf, drop_get h, hs]; omega
theorem startOf_ge (rs : List Item) (k : Nat) : k ≤ startOf rs k := by simp [startOf]
theorem startOf_le {rs : List Item} {k : Nat} (h : k ≤ rs.length) : startOf rs k ≤ rs.length := by
  have a := (List.takeWhile_sublist skipB (l := rs.drop k)).length_le
  have b : (rs.drop k).length = rs.length - k := List.length_drop
  simp only [startOf]; omega
def breakB (rs : List Item) (n : Nat) : Bool :=
  decide (n < rs.length) && (if (itAt rs n).kind = 2 then decide (0 < n) && decide ((itAt rs (n - 1)).kind = 1) else decide ((itAt rs n).kind = 3) && decide ((itAt rs n).cost < 10000))
def mayB (rs : List Item) (n : Int) : Bool := decide (0 ≤ n) && breakB rs n.toNat
theorem mayB_nat (rs : List Item) (n : Nat) : mayB rs (n : Int) = breakB rs n := by simp [mayB]
theorem breakB_lt {rs : List Item} {n : Nat} (h : breakB rs n = true) : n < rs.length := by
  simp only [breakB, Bool.and_eq_true, decide_eq_true_eq] at h; exact h.1
theorem mayB_bd {rs : List Item} {n : Int} (h : mayB rs n = true) : 0 ≤ n ∧ n < rs.length := by
  simp only [mayB, Bool.and_eq_true, decide_eq_true_eq] at h
  have := breakB_lt h.2
  omega
/-- No item from a on and before b is a forced break. -/
def noForced (rs : List Item) (a b : Nat) : Bool := ((rs.take b).drop a).all fun r => !forcedB r
theorem noForced_start (rs : List Item) (a : Nat) : noForced rs a a = true := by
  have : (rs.take a).drop a = [] := by apply List.drop_eq_nil_of_le; simp; omega
  simp [noForced, this]
theorem noForced_snoc {rs : List Item} {a b : Nat} {r : Item} (h : rs[b]? = some r) (hab : a ≤ b) : noForced rs a (b + 1) = (noForced rs a b && !forcedB r) := by
  have hb := get_lt h
  unfold noForced
  rw [take_snoc' h, List.drop_append_of_le_length (by simp; omega), List.all_append]
  simp
theorem noForced_not {rs : List Item} {a b k : Nat} {r : Item} (h : rs[k]? = some r) (ha : a ≤ k) (hb : k < b) (hf : forcedB r = true) : noForced rs a b = false := by
  unfold noForced
  rw [List.all_eq_false]
  refine ⟨r, ?_, by simp [hf]⟩
  apply List.mem_of_getElem? (i := k - a)
  rw [List.getElem?_drop, show a + (k - a) = k by omega, List.getElem?_take_of_lt hb, h]
def lineOk (rs : List Item) (after to : Int) : Bool :=
  (decide (after = -1) || mayB rs after) && (mayB rs to && (decide (after < to) && (decide ((startOf rs (after + 1).toNat : Int) ≤ to) && noForced rs (after + 1).toNat to.toNat)))
theorem lineOk_bd {rs : List Item} {after to : Int} (h : lineOk rs after to = true) : -1 ≤ after ∧ after < to ∧ to < rs.length := by
  simp only [lineOk, Bool.and_eq_true, Bool.or_eq_true, decide_eq_true_eq] at h
  obtain ⟨h1, h2, h3, _⟩ := h
  have := mayB_bd h2
  refine ⟨?_, h3, this.2⟩
  rcases h1 with h1 | h1
  · omega
  · have := mayB_bd h1; omega
/-- The numbers of the boxes and glues from s on and before b. -/
def idxs (rs : List Item) (s b : Nat) : List Nat := (List.range b).filter fun n => decide (s ≤ n) && !decide ((itAt rs n).kind = 3)
theorem idxs_start (rs : List Item) (s : Nat) : idxs rs s s = [] := by
  unfold idxs
  rw [List.filter_eq_nil_iff]
  intro n hn
  simp at hn ⊢
  omega
theorem idxs_take {rs : List Item} {s b : Nat} (hs : s ≤ b) (h : (itAt rs b).kind ≠ 3) : idxs rs s (b + 1) = idxs rs s b ++ [b] := by
  unfold idxs; rw [List.range_succ, List.filter_append]; simp [hs, h]
theorem idxs_skip {rs : List Item} {s b : Nat} (h : (itAt rs b).kind = 3) : idxs rs s (b + 1) = idxs rs s b := by
  unfold idxs; rw [List.range_succ, List.filter_append]; simp [h]
theorem idxs_mem {rs : List Item} {s b n : Nat} (h : n ∈ idxs rs s b) : s ≤ n ∧ n < b ∧ (itAt rs n).kind ≠ 3 := by
  simp [idxs] at h; exact ⟨h.2.1, h.1, h.2.2⟩
theorem idxs_len (rs : List Item) (s b : Nat) : (idxs rs s b).length ≤ b := by
  have := List.length_filter_le (fun n => decide (s ≤ n) && !decide ((itAt rs n).kind = 3)) (List.range b)
  simpa [idxs] using this
/-- The glues of a line. -/
def lineGls (rs : List Item) (s b : Nat) : List Gl := (idxs rs s b).map fun n => (itAt rs n).gl
def endGl (rs : List Item) (b : Nat) : List Gl := if (itAt rs b).kind = 3 then [(itAt rs b).gl] else []
def lineTot (rs : List Item) (after to : Int) : Gl := gTot (lineGls rs (startOf rs (after + 1).toNat) to.toNat ++ endGl rs to.toNat)
theorem item_gl_ok {r : Item} (h : itemValid r = true) : r.gl.ok = true := by
  simp only [itemValid, Bool.and_eq_true] at h; exact h.1
theorem itAt_valid {rs : List Item} {n : Nat} (h : rs.all itemValid = true) (hn : n < rs.length) : itemValid (itAt rs n) = true :=
  List.all_eq_true.1 h _ (mem_of_get (get_itAt hn))
theorem lineGls_ok {rs : List Item} {s b : Nat} (h : rs.all itemValid = true) (hb : b ≤ rs.length) : (lineGls rs s b).all Gl.ok = true := by
  rw [List.all_eq_true]
  intro g hg
  simp only [lineGls, List.mem_map] at hg
  obtain ⟨n, hn, rfl⟩ := hg
  have := idxs_mem hn
  exact item_gl_ok (itAt_valid h (by omega))
theorem endGl_ok {rs : List Item} {b : Nat} (h : rs.all itemValid = true) (hb : b < rs.length) : (endGl rs b).all Gl.ok = true := by
  unfold endGl
  split
  · simp [item_gl_ok (itAt_valid h hb)]
  · rfl
theorem lineAll_ok {rs : List Item} {s b : Nat} (h : rs.all itemValid = true) (hb : b < rs.length) : (lineGls rs s b ++ endGl rs b).all Gl.ok = true := by
  rw [List.all_append, lineGls_ok h (by omega), endGl_ok h hb]; rfl
theorem lineAll_len (rs : List Item) (s b : Nat) : (lineGls rs s b ++ endGl rs b).length ≤ b + 1 := by
  have := idxs_len rs s b
  have : (endGl rs b).length ≤ 1 := by unfold endGl; split <;> simp
  simp [lineGls]; omega

/-! ### badness -/
def badB (need room : Int) : Int := if need = 0 then 0 else if room = 0 then 10000 else if 10 * room < need then 10000 else min 10000 (100 * need * need * need / (room * room * room))
theorem badB_bd {need room : Int} (h : 0 ≤ need) (hr : 0 ≤ room) : 0 ≤ badB need room ∧ badB need room ≤ 10000 := by
  unfold badB
  split
  · omega
  · split
    · omega
    · split
      · omega
      · have a : 0 ≤ 100 * need * need * need / (room * room * room) :=
          Int.ediv_nonneg (Int.mul_nonneg (Int.mul_nonneg (by omega) h) h) (Int.mul_nonneg (Int.mul_nonneg hr hr) hr)
        omega
def fitsB (rs : List Item) (after to width : Int) : Bool := itemsValid rs && (lineOk rs after to && inB width 0 1000)
def badOf (g : Gl) (width : Int) : Int × Bool :=
  if g.w ≤ width then (if g.od = 1 then (0, true) else (badB (width - g.w) g.st, true))
  else if g.w - width ≤ g.sh then (badB (g.w - width) g.sh, false) else (-1, false)
def lineBad (rs : List Item) (after to width : Int) : Int × Bool := if fitsB rs after to width then badOf (lineTot rs after to) width else (-1, false)
theorem lineTot_bd {rs : List Item} {after to : Int} (hv : itemsValid rs = true) (hl : lineOk rs after to = true) :
    let g := lineTot rs after to
    (0 ≤ g.w ∧ g.w ≤ 61000) ∧ (0 ≤ g.st ∧ g.st ≤ 61000) ∧ (0 ≤ g.sh ∧ g.sh ≤ g.w) ∧ (g.od = 0 ∨ g.od = 1) := by
  obtain ⟨hv1, hv2⟩ := itemsValid_iff.1 hv
  have hb := lineOk_bd hl
  have hok := lineAll_ok (s := startOf rs (after + 1).toNat) (b := to.toNat) hv1 (by omega)
  have hlen := lineAll_len rs (startOf rs (after + 1).toNat) to.toNat
  have a := gW_bd hok
  have b := gSt_bd (o := gOd (lineGls rs (startOf rs (after + 1).toNat) to.toNat ++ endGl rs to.toNat)) hok
  have c := gSh_bd hok
  have d := gSh_le hok
  refine ⟨?_, ?_, ?_, ?_⟩
  · show 0 ≤ gW _ ∧ gW _ ≤ _; omega
  · show 0 ≤ gSt _ _ ∧ gSt _ _ ≤ _; omega
  · show 0 ≤ gSh _ ∧ gSh _ ≤ gW _; omega
  · show gOd _ = 0 ∨ gOd _ = 1
    unfold gOd; split <;> simp
theorem badOf_bd {g : Gl} {width : Int} (h : 0 ≤ g.st ∧ 0 ≤ g.sh) : -1 ≤ (badOf g width).1 ∧ (badOf g width).1 ≤ 10000 := by
  unfold badOf
  split
  · split
    · dsimp only; omega
    · have := badB_bd (need := width - g.w) (room := g.st) (by omega) h.1
      dsimp only; omega
  · split
    · have := badB_bd (need := g.w - width) (room := g.sh) (by omega) h.2
      dsimp only; omega
    · dsimp only; omega
theorem lineBad_bd (rs : List Item) (after to width : Int) : -1 ≤ (lineBad rs after to width).1 ∧ (lineBad rs after to width).1 ≤ 10000 := by
  unfold lineBad
  split
  · rename_i h
    simp only [fitsB, Bool.and_eq_true] at h
    have := lineTot_bd h.1 h.2.1
    exact badOf_bd ⟨this.2.1.1, this.2.2.1.1⟩
  · dsimp only; omega
theorem lineBad_fits {rs : List Item} {after to width : Int} (h : 0 ≤ (lineBad rs after to width).1) : fitsB rs after to width = true := by
  unfold lineBad at h
  split at h
  · assumption
  · dsimp only at h; omega
theorem fitsB_iff {rs : List Item} {after to width : Int} : fitsB rs after to width = true ↔ itemsValid rs = true ∧ lineOk rs after to = true ∧ 0 ≤ width ∧ width ≤ 1000 := by
  simp [fitsB, inB]

/-! ### looks and costs -/
def looksOf (st : Bool) (bad : Int) : Int := if bad ≤ 12 then 1 else if st = false then 0 else if bad < 100 then 2 else 3
theorem looksOf_bd (st : Bool) (bad : Int) : 0 ≤ looksOf st bad ∧ looksOf st bad ≤ 3 := by
  unfold looksOf; split
  · omega
  · split
    · omega
    · split <;> omega
def costOf (bad cost : Int) : Int := (10 + bad) * (10 + bad) + if cost = -10000 then 0 else cost * cost
theorem sq_le {a : Int} {b : Int} (h0 : 0 ≤ a) (h : a ≤ b) : a * a ≤ b * b := Int.mul_le_mul h h h0 (by omega)
theorem costOf_bd {bad cost : Int} (hb : 0 ≤ bad ∧ bad ≤ 10000) (hc : isCostB cost = true) : 100 ≤ costOf bad cost ∧ costOf bad cost ≤ 210000000 := by
  have h1 := sq_le (a := 10) (b := 10 + bad) (by omega) (by omega)
  have h2 := sq_le (a := 10 + bad) (b := 10010) (by omega) (by omega)
  unfold costOf
  split
  · omega
  · rename_i hne
    have hc' : 0 ≤ cost ∧ cost ≤ 10000 := by
      simp only [isCostB, Bool.or_eq_true, inB_iff] at hc
      rcases hc with h | h
      · exact h
      · simp at h; exact absurd h hne
    have h3 := sq_le (a := 0) (b := cost) (by omega) (by omega)
    have h4 := sq_le (a := cost) (b := 10000) (by omega) (by omega)
    omega
theorem cost_of_valid {r : Item} (h : itemValid r = true) (hk : r.kind = 2 ∨ r.kind = 3) : isCostB r.cost = true := by
  simp only [itemValid, Bool.and_eq_true] at h
  obtain ⟨_, h⟩ := h
  rcases hk with hk | hk
  · have h' : r.bare = true := by simpa [hk] using h
    simp only [Item.bare, Bool.and_eq_true, decide_eq_true_eq] at h'
    simp [isCostB, inB, h'.1]
  · have h' : (r.rigid && isCostB r.cost) = true := by simpa [hk] using h
    rw [Bool.and_eq_true] at h'
    exact h'.2
theorem break_kind {rs : List Item} {n : Nat} (h : breakB rs n = true) : (itAt rs n).kind = 2 ∨ (itAt rs n).kind = 3 := by
  simp only [breakB, Bool.and_eq_true] at h
  obtain ⟨_, h⟩ := h
  split at h
  · left; assumption
  · right; simp only [Bool.and_eq_true, decide_eq_true_eq] at h; exact h.1
end Go.Proofs.Ytlklkloadefihaa

namespace Go.Proofs.Ytlklkloadefihaa
open Go.RowKit
set_option linter.unusedVariables false

theorem mul_bd {a b A B : Int} (ha : 0 ≤ a ∧ a ≤ A) (hb : 0 ≤ b ∧ b ≤ B) : 0 ≤ a * b ∧ a * b ≤ A * B :=
  ⟨Int.mul_nonneg ha.1 hb.1, Int.mul_le_mul ha.2 hb.2 hb.1 (by omega)⟩
structure Cube (need room : Int) : Prop where
  n1 : 0 ≤ 100 * need ∧ 100 * need ≤ 10000000
  n2 : 0 ≤ 100 * need * need ∧ 100 * need * need ≤ 1000000000000
  n3 : 0 ≤ 100 * need * need * need ∧ 100 * need * need * need ≤ 100000000000000000
  r2 : 1 ≤ room * room ∧ room * room ≤ 10000000000
  r3 : 1 ≤ room * room * room ∧ room * room * room ≤ 1000000000000000
  q : 0 ≤ (100 * need * need * need).tdiv (room * room * room) ∧ (100 * need * need * need).tdiv (room * room * room) ≤ 100000000000000000
  e : (100 * need * need * need).tdiv (room * room * room) = 100 * need * need * need / (room * room * room)
theorem cube {need room : Int} (h : 0 ≤ need ∧ need ≤ 100000) (hr : 1 ≤ room ∧ room ≤ 100000) : Cube need room := by
  have n1 : 0 ≤ 100 * need ∧ 100 * need ≤ 10000000 := by omega
  have n2 := mul_bd n1 h
  have n3 := mul_bd n2 h
  have r2 : 1 ≤ room * room ∧ room * room ≤ 10000000000 := by
    have a := mul_bd (a := room) (b := room) ⟨by omega, hr.2⟩ ⟨by omega, hr.2⟩
    have b := Int.mul_le_mul hr.1 hr.1 (by omega) (by omega)
    omega
  have r3 : 1 ≤ room * room * room ∧ room * room * room ≤ 1000000000000000 := by
    have a := mul_bd (a := room * room) (b := room) ⟨by omega, r2.2⟩ ⟨by omega, hr.2⟩
    have b := Int.mul_le_mul r2.1 hr.1 (by omega) (by omega)
    omega
  have e : (100 * need * need * need).tdiv (room * room * room) = 100 * need * need * need / (room * room * room) := Int.tdiv_eq_ediv_of_nonneg n3.1
  have q0 : 0 ≤ 100 * need * need * need / (room * room * room) := Int.ediv_nonneg n3.1 (by omega)
  have q1 : 100 * need * need * need / (room * room * room) ≤ 100 * need * need * need := Int.ediv_le_self _ n3.1
  exact ⟨n1, by omega, by omega, r2, r3, by rw [e]; omega, e⟩
theorem badB_big {need room : Int} (hr : 1 ≤ room) (h : 5 * room < need) : badB need room = 10000 := by
  unfold badB
  rw [if_neg (by omega), if_neg (by omega)]
  split
  · rfl
  · have r2 : 1 ≤ room * room := by
      have := Int.mul_le_mul hr hr (by omega) (by omega); omega
    have r3 : 1 ≤ room * room * room := by
      have := Int.mul_le_mul r2 hr (by omega) (by omega); omega
    have a : 10000 ≤ 100 * need * need * need / (room * room * room) := by
      rw [Int.le_ediv_iff_mul_le (by omega)]
      have h5 : 5 * room ≤ need := by omega
      have s1 : 5 * room * (5 * room) ≤ need * need := Int.mul_le_mul h5 h5 (by omega) (by omega)
      have s2 : 5 * room * (5 * room) * (5 * room) ≤ need * need * need := Int.mul_le_mul s1 h5 (by omega) (Int.mul_nonneg (by omega) (by omega))
      have e1 : 5 * room * (5 * room) * (5 * room) = 125 * (room * room * room) := by
        simp only [Int.mul_assoc, Int.mul_left_comm room 5]; omega
      have e2 : 100 * need * need * need = 100 * (need * need * need) := by simp only [Int.mul_assoc]
      omega
    omega

set_option maxHeartbeats 800000 in
theorem c_badness (need room : Int) (h : 0 ≤ need ∧ need ≤ 100000) (hr : 0 ≤ room ∧ room ≤ 100000) (w : World) :
    Calls Try.prog 46 #[.int .i64 need, .int .i64 room] w fun e w' => e = .returned (.int .i64 (badB need room)) ∧ w = w' := by
  obtain ⟨h0, h1⟩ := h
  obtain ⟨r0, r1⟩ := hr
  by_cases hn : need = 0
  · have H : Hid (badB need room = 0) := by show _ = _; simp [badB, hn]
    subst hn
    go_enter Try.func46, Try.ntmps46
    go_wp2
    go_ret
    exact ⟨by rw [unhide H] <;> rfl, rfl⟩
  · by_cases hm : room = 0
    · have H : Hid (badB need room = 10000) := by show _ = _; simp [badB, hn, hm]
      subst hm
      go_enter Try.func46, Try.ntmps46
      go_wp2
      go_ret
      exact ⟨by rw [unhide H] <;> rfl, rfl⟩
    · by_cases hb : 10 * room < need
      · have H : Hid (badB need room = 10000) := by show _ = _; simp [badB, hn, hm, hb]
        go_enter Try.func46, Try.ntmps46
        go_wp2
        go_ret
        exact ⟨by rw [unhide H] <;> rfl, rfl⟩
      · obtain ⟨n1, n2, n3, r2, r3, q, e⟩ := cube (need := need) (room := room) ⟨h0, h1⟩ ⟨by omega, r1⟩
        have H : Hid (badB need room = min 10000 ((100 * need * need * need).tdiv (room * room * room))) := by
          show _ = _; rw [e]; unfold badB; rw [if_neg hn, if_neg hm, if_neg hb]
        have E := hide e
        have hz : ¬ room * room * room = 0 := by omega
        clear e
        go_enter Try.func46, Try.ntmps46
        go_wp2_with (refine wpList_min rfl rfl rfl rfl ?_)
        go_ret
        exact ⟨by rw [unhide H] <;> rfl, rfl⟩
set_option maxHeartbeats 800000 in
theorem c_badness' (need room : Int) (h : 0 ≤ need ∧ need ≤ 100000) (hr : 0 ≤ room ∧ room ≤ 100000) (w : World) :
    Calls Try.prog 75 #[.int .i64 need, .int .i64 room] w fun e w' => e = .returned (.int .i64 (badB need room)) ∧ w = w' := by
  have i1 : inB need 0 100000 = true := inB_iff.2 h
  have i2 : inB room 0 100000 = true := inB_iff.2 hr
  obtain ⟨h0, h1⟩ := h
  obtain ⟨r0, r1⟩ := hr
  by_cases hn : need = 0
  · have H : Hid (badB need room = 0) := by show _ = _; simp [badB, hn]
    subst hn
    go_enter Try.func75, Try.ntmps75
    go_wp2_with (go_at_call 47; refine (c_l1In _ _ _ _).mono ?_; rintro e w' ⟨rfl, rfl⟩)
    go_ret
    exact ⟨by rw [unhide H] <;> rfl, rfl⟩
  · by_cases hm : room = 0
    · have H : Hid (badB need room = 10000) := by show _ = _; simp [badB, hn, hm]
      subst hm
      go_enter Try.func75, Try.ntmps75
      go_wp2_with (go_at_call 47; refine (c_l1In _ _ _ _).mono ?_; rintro e w' ⟨rfl, rfl⟩)
      go_ret
      exact ⟨by rw [unhide H] <;> rfl, rfl⟩
    · by_cases hb : 5 * room < need
      · have H : Hid (badB need room = 10000) := badB_big (by omega) hb
        go_enter Try.func75, Try.ntmps75
        go_wp2_with (go_at_call 47; refine (c_l1In _ _ _ _).mono ?_; rintro e w' ⟨rfl, rfl⟩)
        go_ret
        exact ⟨by rw [unhide H] <;> rfl, rfl⟩
      · obtain ⟨n1, n2, n3, r2, r3, q, e⟩ := cube (need := need) (room := room) ⟨h0, h1⟩ ⟨by omega, r1⟩
        have H : Hid (badB need room = min 10000 ((100 * need * need * need).tdiv (room * room * room))) := by
          show _ = _; rw [e]; unfold badB; rw [if_neg hn, if_neg hm, if_neg (by omega)]
        have g1 : (room == 0) = false := by simpa using hm
        have g2 : decide (5 * room < need) = false := by simpa using hb
        have E := hide e
        have hz : ¬ room * room * room = 0 := by omega
        clear e
        go_enter Try.func75, Try.ntmps75
        go_wp2_with (first | (refine wpList_min rfl rfl rfl rfl ?_) | (go_at_call 47; refine (c_l1In _ _ _ _).mono ?_; rintro e w' ⟨rfl, rfl⟩))
        go_ret
        exact ⟨by rw [unhide H] <;> rfl, rfl⟩
set_option maxHeartbeats 400000 in
theorem c_looksOf (st : Bool) (bad : Int) (h : 0 ≤ bad ∧ bad ≤ 10000) (w : World) :
    Calls Try.prog 81 #[.bool st, .int .i64 bad] w fun e w' => e = .returned (.int .i64 (looksOf st bad)) ∧ w = w' := by
  have i1 : inB bad 0 10000 = true := inB_iff.2 h
  by_cases h1 : bad ≤ 12 <;> by_cases h2 : bad < 100 <;> cases st
  all_goals
    go_enter Try.func81, Try.ntmps81
    go_wp2_with (go_at_call 78; refine (c_isBad _ _).mono ?_; rintro e w' ⟨rfl, rfl⟩)
    go_ret
    exact ⟨by simp [looksOf, *] <;> omega, rfl⟩
set_option maxHeartbeats 400000 in
theorem c_looksOf' (st : Bool) (bad : Int) (h : 0 ≤ bad ∧ bad ≤ 10000) (w : World) :
    Calls Try.prog 63 #[.bool st, .int .i64 bad] w fun e w' => e = .returned (.int .i64 (looksOf st bad)) ∧ w = w' := by
  have i1 : inB bad 0 10000 = true := inB_iff.2 h
  by_cases h1 : bad ≤ 12 <;> by_cases h2 : bad < 100 <;> cases st
  all_goals
    go_enter Try.func63, Try.ntmps63
    go_wp2_with (go_at_call 47; refine (c_l1In _ _ _ _).mono ?_; rintro e w' ⟨rfl, rfl⟩)
    go_ret
    exact ⟨by simp [looksOf, *] <;> omega, rfl⟩
set_option maxHeartbeats 400000 in
theorem c_costOf (bad cost : Int) (h : 0 ≤ bad ∧ bad ≤ 10000) (hc : isCostB cost = true) (w : World) :
    Calls Try.prog 82 #[.int .i64 bad, .int .i64 cost] w fun e w' => e = .returned (.int .i64 (costOf bad cost)) ∧ w = w' := by
  have i1 : inB bad 0 10000 = true := inB_iff.2 h
  have hb := costOf_bd h hc
  have h1 := mul_bd (a := 10 + bad) (b := 10 + bad) (A := 10010) (B := 10010) ⟨by omega, by omega⟩ ⟨by omega, by omega⟩
  unfold costOf at hb ⊢
  by_cases hm : cost = -10000
  · subst hm
    go_enter Try.func82, Try.ntmps82
    go_wp2_with (first | (go_at_call 78; refine (c_isBad _ _).mono ?_; rintro e w' ⟨rfl, rfl⟩) | (go_at_call 94; refine (c_isCost _ _).mono ?_; rintro e w' ⟨rfl, rfl⟩))
    go_ret
    exact ⟨by simp, rfl⟩
  · rw [if_neg hm] at hb
    have h2 : 0 ≤ cost * cost ∧ cost * cost ≤ 100000000 := by
      have : 0 ≤ cost ∧ cost ≤ 10000 := by
        simp only [isCostB, Bool.or_eq_true, inB_iff] at hc
        rcases hc with h | h
        · exact h
        · simp at h; exact absurd h hm
      exact mul_bd this this
    go_enter Try.func82, Try.ntmps82
    go_wp2_with (first | (go_at_call 78; refine (c_isBad _ _).mono ?_; rintro e w' ⟨rfl, rfl⟩) | (go_at_call 94; refine (c_isCost _ _).mono ?_; rintro e w' ⟨rfl, rfl⟩))
    go_ret
    exact ⟨by simp [*], rfl⟩
set_option maxHeartbeats 400000 in
theorem c_costOf' (bad cost : Int) (h : 0 ≤ bad ∧ bad ≤ 10000) (hc : isCostB cost = true) (w : World) :
    Calls Try.prog 64 #[.int .i64 bad, .int .i64 cost] w fun e w' => e = .returned (.int .i64 (costOf bad cost)) ∧ w = w' := by
  have i1 : inB bad 0 10000 = true := inB_iff.2 h
  have hb := costOf_bd h hc
  have h1 := mul_bd (a := 10 + bad) (b := 10 + bad) (A := 10010) (B := 10010) ⟨by omega, by omega⟩ ⟨by omega, by omega⟩
  unfold costOf at hb ⊢
  by_cases hm : cost = -10000
  · subst hm
    have i2 : inB (-10000) 0 10000 = false := by decide
    go_enter Try.func64, Try.ntmps64
    go_wp2_with (go_at_call 47; refine (c_l1In _ _ _ _).mono ?_; rintro e w' ⟨rfl, rfl⟩)
    go_ret
    exact ⟨by simp, rfl⟩
  · rw [if_neg hm] at hb
    have hc' : 0 ≤ cost ∧ cost ≤ 10000 := by
      simp only [isCostB, Bool.or_eq_true, inB_iff] at hc
      rcases hc with h | h
      · exact h
      · simp at h; exact absurd h hm
    have i2 : inB cost 0 10000 = true := inB_iff.2 hc'
    have h2 : 0 ≤ cost * cost ∧ cost * cost ≤ 100000000 := mul_bd hc' hc'
    by_cases hz : cost = 0
    · subst hz
      go_enter Try.func64, Try.ntmps64
      go_wp2_with (go_at_call 47; refine (c_l1In _ _ _ _).mono ?_; rintro e w' ⟨rfl, rfl⟩)
      go_ret
      exact ⟨by simp, rfl⟩
    · go_enter Try.func64, Try.ntmps64
      go_wp2_with (go_at_call 47; refine (c_l1In _ _ _ _).mono ?_; rintro e w' ⟨rfl, rfl⟩)
      go_ret
      exact ⟨by simp [*], rfl⟩
end Go.Proofs.Ytlklkloadefihaa

namespace Go.Proofs.Ytlklkloadefihaa
open Go.RowKit
set_option linter.unusedVariables false
theorem rd_new (w : World) (t : TypeId) (cs : List Value) (n sz : Nat) (h : cs.length = n * sz) : Rd (w.alloc (.cells cs.toArray t)) (some ⟨w.heap.size, 0, none⟩) n sz cs :=
  ⟨h, fun _ => ⟨w.heap.size, 0, rfl, by simp, fun j u hu => by
    have := (Blk.new w t cs.toArray).cell j
    rw [Nat.zero_add, this]; simpa using hu⟩⟩
section
variable {P : Program} (w : World)

theorem run_append_nil' (base : Nat) (t ty e : TypeId) (i : TypeInfo) (size : Nat) (ht : P.underlying t = some (.slice e)) (hi : P.info? e = some i)
    (v : Value) (n : Nat) (xs : List Value) (hown : w.ownsRow base e size v n xs) (c : Nat) : (Builtin.append_ #[t, t] ty #[v, .slice none 0 c]).run P w = .ok v w := by
  rcases hown.2 with ⟨rfl, rfl⟩ | ⟨g, cap, cur, rfl, _, _, hnc, _⟩
  · simp [Builtin.append_, run_underlying ht, sizeOf, typeInfo, hi, Builtin.lenOf, Builtin.firstCells]
  · simp [Builtin.append_, run_underlying ht, sizeOf, typeInfo, hi, Builtin.lenOf, Builtin.firstCells, hnc, storeCells]

theorem run_append_rd (base : Nat) (t ty e : TypeId) (i : TypeInfo) (z : Value) (size bytes : Nat) (ht : P.underlying t = some (.slice e)) (hi : P.info? e = some i) (hz : i.zero = some z)
    (hsize : i.size = size) (hby : i.bytes = bytes) (hzs : z.cells.size = size) (hsz : 0 < size)
    (v : Value) (n : Nat) (xs : List Value) (hown : w.ownsRow base e size v n xs)
    (A : Option Addr) (m c : Nat) (news : List Value) (hr : Rd w A m size news) (h1 : ∀ u ∈ news, u.oneCell' = true)
    (h63 : n + m ≤ maxLen) (hbytes : (n + m) * bytes ≤ 140737488355328) (hbase : base ≤ w.heap.size) :
    ∃ v' w', (Builtin.append_ #[t, t] ty #[v, .slice A m c]).run P w = .ok v' w' ∧ w'.ownsRow base e size v' (n + m) (xs ++ news) ∧ w.grownBy w' v.ownBlock := by
  rcases A with _ | ad
  · have hm : m = 0 := by
      rcases Nat.eq_zero_or_pos m with h0 | h0
      · exact h0
      · obtain ⟨b, off, h, _⟩ := hr.cells h0
        cases h
    subst hm
    have hn : news = [] := List.eq_nil_of_length_eq_zero (by simpa using hr.len)
    subst hn
    exact ⟨v, w, run_append_nil' w base t ty e i size ht hi v n xs hown c, by simpa using hown, ⟨rfl, rfl, rfl, Nat.le_refl _, fun _ _ _ => rfl⟩⟩
  · have hcells : ∀ j u, news[j]? = some u → w.cell? (ad.add j) = some u := by
      intro j u hu
      rcases Nat.eq_zero_or_pos m with h0 | h0
      · subst h0
        have hn : news = [] := List.eq_nil_of_length_eq_zero (by simpa using hr.len)
        subst hn
        simp at hu
      · obtain ⟨b, off, h, _, hc⟩ := hr.cells h0
        injection h with h
        subst h
        rw [add_lit']
        exact hc j u hu
    obtain ⟨v', w', hrun, h2, h3, _⟩ := run_append_own (P := P) w base t ty e i z size bytes ht hi hz hsize hby hzs hsz v n xs hown ad m c news hr.len hcells h1 h63 hbytes hbase
    exact ⟨v', w', hrun, h2, h3⟩

theorem wpList_append_rd {ops : Array Oper} {rest : List Oper} {o : Oper} {a : Act} {Q : Exit → Act → World → Prop} (hw : Region.wanted o (yielded ops a.tmps) = true) (s x : Operand) (t : TypeId)
    (ho : o.op = .call { callee := .builtin .append, args := #[s, x], argTypes := #[t, t] })
    (base : Nat) (e : TypeId) (i : TypeInfo) (z : Value) (size bytes : Nat) (ht : P.underlying t = some (.slice e)) (hi : P.info? e = some i) (hz : i.zero = some z)
    (hsize : i.size = size) (hby : i.bytes = bytes) (hzs : z.cells.size = size) (hsz : 0 < size)
    (v : Value) (n : Nat) (xs : List Value) (hs : a.eval s = v) (hown : w.ownsRow base e size v n xs)
    (A : Option Addr) (m c : Nat) (news : List Value) (hx : a.eval x = .slice A m c) (hr : Rd w A m size news) (h1 : ∀ u ∈ news, u.oneCell' = true)
    (h63 : n + m ≤ maxLen) (hbytes : (n + m) * bytes ≤ 140737488355328) (hbase : base ≤ w.heap.size)
    (h : ∀ v' w', w'.ownsRow base e size v' (n + m) (xs ++ news) → w.grownBy w' v.ownBlock → wpList P ops Q rest (a.put o.dst v') w') : wpList P ops Q (o :: rest) a w :=
  BigFrame.wpList_want hw fun K hK => by
    obtain ⟨v', w', hrun, h2, h3⟩ := run_append_rd (P := P) w base t o.type e i z size bytes ht hi hz hsize hby hzs hsz v n xs hown A m c news hr h1 h63 hbytes hbase
    unfold Oper.wp execOp
    simp only [ho, resolve, invoke, builtin, Sem.run_bind, Sem.run_pure, Result.andThen_ok, List.map_toArray, List.map_cons, List.map_nil, hs, hx, hrun]
    exact hK _ _ (h v' w' h2 h3)
end
end Go.Proofs.Ytlklkloadefihaa

namespace Go.Proofs.Ytlklkloadefihaa
open Go.RowKit
set_option linter.unusedVariables false

set_option maxHeartbeats 400000 in
theorem c_alive (w : World) : Calls Try.prog 17 #[] w fun e w' => e = .returned (.bool true) ∧ Below w.heap.size w w' := by
  go_enter Try.func17, Try.ntmps17
  go_wp2
  go_ret
  exact ⟨rfl, bof _ _⟩
end Go.Proofs.Ytlklkloadefihaa

namespace Go.Proofs.Ytlklkloadefihaa
open Go.RowKit
set_option linter.unusedVariables false

structure Placed where
  at_ : Int
  place : Int
  deriving DecidableEq
def Placed.cells (r : Placed) : List Value := [.int .i64 r.at_, .int .i64 r.place]
theorem Placed.cells_len (r : Placed) : r.cells.length = 2 := rfl
def PlacedAt (w : World) (A : Option Addr) (n c : Nat) (rs : List Placed) : Prop := Sl w A n c 2 (rs.flatMap Placed.cells)
section placed
variable {w w' : World} {A : Option Addr} {n c k : Nat} {rs : List Placed}
theorem PlacedAt.len (h : PlacedAt w A n c rs) : rs.length = n := by
  have := Rd.len h.1; rw [flatMap_len Placed.cells_len] at this; omega
theorem PlacedAt.next (h : PlacedAt w A n c rs) (hb : Below w.heap.size w w') : PlacedAt w' A n c rs := Sl.next h hb
theorem PlacedAt.below {B : Nat} (h : PlacedAt w A n c rs) (hB : w.heap.size ≤ B) (hb : Below B w w') : PlacedAt w' A n c rs := Sl.below h hB hb
theorem PlacedAt.bd (h : PlacedAt w A n c rs) : n ≤ c ∧ c ≤ 9223372036854775807 := h.2
theorem PlacedAt.at_ (h : PlacedAt w A n c rs) (hk : k < n) : ∃ b off r, A = some ⟨b, off, none⟩ ∧ b < w.heap.size ∧ rs[k]? = some r ∧ w.cell? ⟨b, off + k * 2, none⟩ = some (.int .i64 r.at_) ∧ w.cell? ⟨b, off + k * 2 + 1, none⟩ = some (.int .i64 r.place) := by
  obtain ⟨b, off, e, hl, hc⟩ := Rd.cells h.1 (by omega)
  have hlen := h.len
  have hx : rs[k]? = some (rs[k]'(by omega)) := List.getElem?_eq_getElem (by omega)
  have hg := fun j hj => flatMap_get Placed.cells_len rs k j _ hx hj
  refine ⟨b, off, _, e, hl, hx, ?_, ?_⟩
  · exact hc (k * 2 + 0) _ (hg 0 (by omega))
  · exact hc (k * 2 + 1) _ (hg 1 (by omega))
end placed
theorem infoPlaced : (Try.prog.info? 49).map (fun i => (i.zero, i.size, i.bytes)) = some (some (.agg #[.int .i64 0, .int .i64 0]), 2, 16) := by kernel_rfl
theorem flat_snoc_placed (rs : List Placed) (r : Placed) : (rs ++ [r]).flatMap Placed.cells = rs.flatMap Placed.cells ++ [.int .i64 r.at_, .int .i64 r.place] := by simp [Placed.cells]
theorem cells_new_placed (w : World) (t : TypeId) (a0 a1 : Value) : ∀ j u, [a0, a1][j]? = some u → (w.alloc (.cells #[a0, a1] t)).cell? ((⟨w.heap.size, 0, none⟩ : Addr).add j) = some u := by
  intro j u hj
  rw [add_lit', Nat.zero_add, (Blk.new w t #[a0, a1]).cell j]
  simpa using hj
theorem one_placed (r : Placed) : ∀ u ∈ ([.int .i64 r.at_, .int .i64 r.place] : List Value), u.oneCell' = true := by
  intro u hu; simp at hu; rcases hu with rfl | rfl <;> rfl
/-- A slice that the call itself made, with its elements. -/
def OwnP (w : World) (B : Nat) (A : Option Addr) (c : Nat) (rs : List Placed) : Prop := w.ownsRow B 49 2 (.slice A rs.length c) rs.length (rs.flatMap Placed.cells)
section ownplaced
variable {w w' : World} {A : Option Addr} {B c : Nat} {rs : List Placed}
theorem OwnP.at_ (h : OwnP w B A c rs) : PlacedAt w A rs.length c rs := Sl.of_own h
theorem OwnP.next (h : OwnP w B A c rs) (hb : Below w.heap.size w w') : OwnP w' B A c rs := own_next h hb
theorem OwnP.of {v : Value} (h : w.ownsRow B 49 2 v rs.length (rs.flatMap Placed.cells)) : ∃ A c, v = .slice A rs.length c ∧ OwnP w B A c rs := by
  obtain ⟨A, c, rfl, _, _, _, _, h'⟩ := own_form h
  exact ⟨A, c, rfl, h'⟩
end ownplaced
theorem take_set_placed {ys : List Value} {j : Nat} (hj : j + 1 < ys.length) (a0 a1 : Value) : ((ys.set j a0).set (j + 1) a1).take (j + 2) = ys.take j ++ [a0, a1] := by
  rw [show j + 2 = j + 1 + 1 from rfl, take_set (by simp; omega), take_set (by omega)]
  simp
theorem flat_take_snoc_placed {rs : List Placed} {k : Nat} {r : Placed} (h : rs[k]? = some r) : (rs.take (k + 1)).flatMap Placed.cells = (rs.take k).flatMap Placed.cells ++ [.int .i64 r.at_, .int .i64 r.place] := by
  rw [take_snoc' h, flat_snoc_placed]






/-- The element that a mark leaves from the number q on. -/
def markPlaced (q : Int) : Placed := ⟨q, q + 1⟩
def marksPlaced (k : Int) (n : Nat) : List Placed := (List.range n).map fun (i : Nat) => markPlaced (k + 2 * (i : Int))
theorem marksPlaced_len (k : Int) (n : Nat) : (marksPlaced k n).length = n := by simp [marksPlaced]
theorem marksPlaced_get {k : Int} {n i : Nat} (h : i < n) : (marksPlaced k n)[i]? = some (markPlaced (k + 2 * (i : Int))) := by simp [marksPlaced, h]
theorem marksPlaced_snoc (k : Int) (n : Nat) : marksPlaced k (n + 1) = marksPlaced k n ++ [markPlaced (k + 2 * (n : Int))] := by simp [marksPlaced, List.range_succ]
theorem marks_atPlacedS {w : World} {B c n : Nat} {A : Option Addr} {k : Int} (h : OwnP w B A c (marksPlaced k n)) : PlacedAt w A n c (marksPlaced k n) := by
  have h' := h.at_; rwa [marksPlaced_len] at h'


end Go.Proofs.Ytlklkloadefihaa
