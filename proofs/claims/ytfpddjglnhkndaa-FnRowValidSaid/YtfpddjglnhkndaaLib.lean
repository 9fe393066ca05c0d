/- Words and lemmas on memory and lists for the proofs of this seat: a slice that reads as a list of typed elements, kept over new blocks; rows owned by the call. No condition. -/
import Derived.WalkKit
import Derived.WalkSpells
import Derived.WalkLawsBesides
namespace Go.Proofs.Ytfpddjglnhkndaa
open Go.RowKit

/-! ### worlds -/
theorem hide {p : Prop} (h : p) : Hid p := h
theorem unhide {p : Prop} (h : Hid p) : p := h
theorem bnext {w0 w1 w2 : World} (h : Below w0.heap.size w0 w1) (h2 : Below w1.heap.size w1 w2) : Below w0.heap.size w0 w2 :=
  h.trans (h2.mono h.size)
theorem bmk {w0 w1 : World} (h : Below w0.heap.size w0 w1) (o : Obj) : Below w0.heap.size w0 (w1.alloc o) := h.alloc h.size o
theorem bof (w0 : World) (o : Obj) : Below w0.heap.size w0 (w0.alloc o) := (Below.refl _ _).alloc (Nat.le_refl _) o
theorem bdrewN {B : Nat} {a w : World} (h : Below B a w) (n : Nat) : Below B a (w.drewN n) := ⟨h.os, h.tape, h.output, h.size, h.block⟩
theorem size_alloc' (w : World) (o : Obj) : (w.alloc o).heap.size = w.heap.size + 1 := by simp

/-! ### lists -/
section lists
variable {α β : Type} {l : List α} {k : Nat} {r : α}
theorem take_snoc' (h : l[k]? = some r) : l.take (k + 1) = l.take k ++ [r] := by rw [List.take_add_one, h]; rfl
theorem get_lt (h : l[k]? = some r) : k < l.length := (List.getElem?_eq_some_iff.1 h).1
theorem mem_of_get (h : l[k]? = some r) : r ∈ l := List.mem_of_getElem? h
theorem all_snoc {p : α → Bool} (h : l[k]? = some r) (h1 : (l.take k).all p = true) (h2 : p r = true) : (l.take (k + 1)).all p = true := by
  rw [take_snoc' h, List.all_append, h1]; simp [h2]
theorem all_not {p : α → Bool} (h : l[k]? = some r) (h2 : p r = false) : l.all p = false := by
  rw [List.all_eq_false]; exact ⟨r, mem_of_get h, by simp [h2]⟩
theorem all_end {p : α → Bool} (hk : l.length ≤ k) (h1 : (l.take k).all p = true) : l.all p = true := by
  rwa [List.take_of_length_le hk] at h1
theorem foldl_snoc {f : β → α → β} {a : β} (h : l[k]? = some r) : (l.take (k + 1)).foldl f a = f ((l.take k).foldl f a) r := by
  rw [take_snoc' h, List.foldl_append]; rfl
theorem map_snoc {f : α → β} (h : l[k]? = some r) : (l.take (k + 1)).map f = (l.take k).map f ++ [f r] := by rw [take_snoc' h, List.map_append]; rfl
theorem flatMap_len {f : α → List β} {s : Nat} (hf : ∀ a, (f a).length = s) (l : List α) : (l.flatMap f).length = l.length * s := by
  induction l with
  | nil => simp
  | cons a t ih => rw [List.flatMap_cons, List.length_append, hf, ih, List.length_cons, Nat.add_mul]; omega
theorem flatMap_get {f : α → List β} {s : Nat} (hf : ∀ a, (f a).length = s) : ∀ (l : List α) (k j : Nat) (r : α), l[k]? = some r → j < s → (l.flatMap f)[k * s + j]? = (f r)[j]?
  | [], k, j, r, h, _ => by simp at h
  | a :: t, 0, j, r, h, hj => by
    simp at h; subst h
    rw [List.flatMap_cons, List.getElem?_append_left (by rw [hf]; omega)]; simp
  | a :: t, k + 1, j, r, h, hj => by
    rw [List.flatMap_cons, List.getElem?_append_right (by rw [hf, Nat.add_mul]; omega), hf]
    rw [show (k + 1) * s + j - s = k * s + j by rw [Nat.add_mul]; omega]
    exact flatMap_get hf t k j r (by simpa using h) hj
theorem flatMap_take {f : α → List β} {s : Nat} (hf : ∀ a, (f a).length = s) : ∀ (l : List α) (k : Nat), (l.take k).flatMap f = (l.flatMap f).take (k * s)
  | [], k => by simp
  | a :: t, 0 => by simp
  | a :: t, k + 1 => by
    have h1 : (f a).length ≤ (k + 1) * s := by rw [hf, Nat.add_mul]; omega
    rw [List.take_succ_cons, List.flatMap_cons, List.flatMap_cons, List.take_append, flatMap_take hf t k, List.take_of_length_le h1, hf]
    rw [show (k + 1) * s - s = k * s by rw [Nat.add_mul]; omega]
theorem flatMap_drop {f : α → List β} {s : Nat} (hf : ∀ a, (f a).length = s) : ∀ (l : List α) (k : Nat), (l.drop k).flatMap f = (l.flatMap f).drop (k * s)
  | [], k => by simp
  | a :: t, 0 => by simp
  | a :: t, k + 1 => by
    have h1 : (f a).length ≤ (k + 1) * s := by rw [hf, Nat.add_mul]; omega
    rw [List.drop_succ_cons, List.flatMap_cons, List.drop_append, flatMap_drop hf t k, List.drop_of_length_le h1, hf]
    rw [show (k + 1) * s - s = k * s by rw [Nat.add_mul]; omega]; rfl
end lists

/-! ### a slice that reads as cells -/
/-- The slice value '.slice A n c' of elements of sz cells each reads, in w, as the cells xs. -/
structure Rd (w : World) (A : Option Addr) (n sz : Nat) (xs : List Value) : Prop where
  len : xs.length = n * sz
  cells : 0 < n → ∃ b off, A = some ⟨b, off, none⟩ ∧ b < w.heap.size ∧ ∀ j u, xs[j]? = some u → w.cell? ⟨b, off + j, none⟩ = some u
section rd
variable {w w' : World} {A : Option Addr} {n sz : Nat} {xs : List Value}
theorem Rd.nil (w : World) (A : Option Addr) (sz : Nat) : Rd w A 0 sz [] := ⟨by simp, fun h => absurd h (by omega)⟩
theorem Rd.below {B : Nat} (h : Rd w A n sz xs) (hB : w.heap.size ≤ B) (hb : Below B w w') : Rd w' A n sz xs :=
  ⟨h.len, fun hn => by
    obtain ⟨b, off, e, hl, hc⟩ := h.cells hn
    exact ⟨b, off, e, Nat.lt_of_lt_of_le hl hb.size, fun j u hu => (hb.cell (p := ⟨b, off + j, none⟩) (Nat.lt_of_lt_of_le hl hB)).trans (hc j u hu)⟩⟩
theorem Rd.next (h : Rd w A n sz xs) (hb : Below w.heap.size w w') : Rd w' A n sz xs := h.below (Nat.le_refl _) hb
theorem Rd.alloc (h : Rd w A n sz xs) (o : Obj) : Rd (w.alloc o) A n sz xs := h.next (bof w o)
theorem Rd.drew (h : Rd w A n sz xs) : Rd w.drew A n sz xs := ⟨h.len, h.cells⟩
theorem Rd.drewN (h : Rd w A n sz xs) (k : Nat) : Rd (w.drewN k) A n sz xs := ⟨h.len, h.cells⟩
theorem add_lit' (b off j : Nat) : (⟨b, off, none⟩ : Addr).add j = ⟨b, off + j, none⟩ := by unfold Addr.add; split <;> simp_all
theorem Rd.of_own {B e c : Nat} (h : w.ownsRow B e sz (.slice A n c) n xs) : Rd w A n sz xs :=
  ⟨h.1, fun hn => by
    rcases h.2 with ⟨_, h0⟩ | ⟨g, cap, cur, hv, _, hh, _⟩
    · omega
    · have hA : A = some ⟨g, 0, none⟩ := by injection hv
      subst hA
      refine ⟨g, 0, rfl, (Array.getElem?_eq_some_iff.1 hh).1, fun j u hu => ?_⟩
      have := h.cells (g := g) rfl j u hu
      rwa [add_lit'] at this⟩
/-- What an owned row's value is. -/
theorem own_form {B e : Nat} {v : Value} (h : w.ownsRow B e sz v n xs) : ∃ A c, v = .slice A n c ∧ n ≤ c ∧ c ≤ maxLen ∧ Rd w A n sz xs ∧ (A = none ∨ ∃ g, A = some ⟨g, 0, none⟩ ∧ B ≤ g ∧ g < w.heap.size) ∧ w.ownsRow B e sz (.slice A n c) n xs := by
  have h' := h
  rcases h.2 with ⟨rfl, rfl⟩ | ⟨g, cap, cur, rfl, hg, hh, hn, hm, _⟩
  · exact ⟨none, 0, rfl, Nat.le_refl _, by unfold maxLen; omega, Rd.of_own h', .inl rfl, h'⟩
  · exact ⟨_, cap, rfl, hn, hm, Rd.of_own h', .inr ⟨g, rfl, hg, (Array.getElem?_eq_some_iff.1 hh).1⟩, h'⟩
/-- A part of a slice: from the element i up to the element j, as the model writes its address. -/
theorem Rd.cut {i j : Nat} (h : Rd w A n sz xs) (hi : i ≤ j) (hj : j ≤ n) : Rd w (A.map (·.add (i * sz))) (j - i) sz ((xs.drop (i * sz)).take ((j - i) * sz)) := by
  have hm : j * sz ≤ n * sz := Nat.mul_le_mul_right _ hj
  have hs : (j - i) * sz = j * sz - i * sz := Nat.sub_mul ..
  refine ⟨by rw [List.length_take, List.length_drop, h.len]; omega, fun hn => ?_⟩
  obtain ⟨b, off, rfl, hl, hc⟩ := h.cells (by omega)
  refine ⟨b, off + i * sz, by simp [add_lit'], hl, fun q u hu => ?_⟩
  rw [List.getElem?_take] at hu
  split at hu
  · rw [List.getElem?_drop] at hu
    have := hc _ u hu
    rwa [Nat.add_assoc]
  · cases hu
theorem Rd.take {k : Nat} (h : Rd w A n sz xs) (hk : k ≤ n) : Rd w A k sz (xs.take (k * sz)) := by
  have hm : k * sz ≤ n * sz := Nat.mul_le_mul_right _ hk
  refine ⟨by rw [List.length_take, h.len]; omega, fun hn => ?_⟩
  obtain ⟨b, off, rfl, hl, hc⟩ := h.cells (by omega)
  refine ⟨b, off, rfl, hl, fun q u hu => ?_⟩
  rw [List.getElem?_take] at hu
  split at hu
  · exact hc _ u hu
  · cases hu
theorem Rd.congrA {A' : Option Addr} (h : Rd w A n sz xs) (e : 0 < n → A' = A) : Rd w A' n sz xs :=
  ⟨h.len, fun hn => by rw [e hn]; exact h.cells hn⟩
end rd

/-! ### slices of int -/
def IntsAt (w : World) (A : Option Addr) (n : Nat) (xs : List Int) : Prop := Rd w A n 1 (xs.map (Value.int .i64))
section ints
variable {w w' : World} {A : Option Addr} {n k : Nat} {xs : List Int}
theorem IntsAt.len (h : IntsAt w A n xs) : xs.length = n := by have := Rd.len h; simpa using this
theorem IntsAt.at_ (h : IntsAt w A n xs) (hk : k < n) : ∃ b off x, A = some ⟨b, off, none⟩ ∧ b < w.heap.size ∧ xs[k]? = some x ∧ w.cell? ⟨b, off + k, none⟩ = some (.int .i64 x) := by
  obtain ⟨b, off, e, hl, hc⟩ := Rd.cells h (by omega)
  have hlen := h.len
  have hx : xs[k]? = some (xs[k]'(by omega)) := List.getElem?_eq_getElem (by omega)
  exact ⟨b, off, xs[k]'(by omega), e, hl, hx, hc k _ (by rw [List.getElem?_map, hx]; rfl)⟩
theorem IntsAt.next (h : IntsAt w A n xs) (hb : Below w.heap.size w w') : IntsAt w' A n xs := Rd.next h hb
end ints

/-! ### a block that is known whole -/
def Blk (w : World) (g : Nat) (t : TypeId) (cs : Array Value) : Prop := w.heap[g]? = some (.cells cs t (0, 0))
section blk
variable {w w' : World} {g : Nat} {t : TypeId} {cs : Array Value}
theorem Blk.lt (h : Blk w g t cs) : g < w.heap.size := (Array.getElem?_eq_some_iff.1 h).1
theorem Blk.cell (h : Blk w g t cs) (i : Nat) : w.cell? ⟨g, i, none⟩ = cs[i]? := cell_of_row w g i cs t (0, 0) h
theorem Blk.frozen (h : Blk w g t cs) (i : Nat) : w.frozen? ⟨g, i, none⟩ = false := frozen_of_row w g i cs t h
theorem Blk.new (w : World) (t : TypeId) (cs : Array Value) : Blk (w.alloc (.cells cs t)) w.heap.size t cs := heap_alloc_new w _
theorem Blk.alloc (h : Blk w g t cs) (o : Obj) : Blk (w.alloc o) g t cs := (Below.heap_alloc w o g h.lt).trans h
theorem Blk.set_ (h : Blk w g t cs) (i : Nat) (u : Value) : Blk (w.setCell ⟨g, i, none⟩ u) g t (cs.setIfInBounds i u) := heap_setCell_same w g i cs t u h
theorem Blk.far (h : Blk w g t cs) {p : Addr} (hp : g ≠ p.block) (u : Value) : Blk (w.setCell p u) g t cs := (Below.heap_setCell w p u g hp).trans h
theorem Blk.grown {row : Option Nat} (h : Blk w g t cs) (hb : w.grownBy w' row) (hg : some g ≠ row) : Blk w' g t cs := (hb.block g h.lt hg).trans h
theorem Blk.next (h : Blk w g t cs) (hb : Below w.heap.size w w') : Blk w' g t cs := (hb.block g h.lt).trans h
theorem Blk.drew (h : Blk w g t cs) : Blk w.drew g t cs := h
end blk
#print axioms Rd.cut
end Go.Proofs.Ytfpddjglnhkndaa
