/- Words and lemmas on memory and lists for the proofs of this seat: a slice that reads as a list of typed elements, kept over new blocks; rows owned by the call. No condition. -/
import Derived.WalkKit
import Derived.WalkSpells
import Derived.WalkLawsBesides
namespace Go.Proofs.Ytadcbigioldejaa
open Go.RowKit
set_option linter.unusedVariables false

/-! ### worlds -/
theorem hide {p : Prop} (h : p) : Hid p := h
theorem unhide {p : Prop} (h : Hid p) : p := h
theorem bnext {w0 w1 w2 : World} (h : Below w0.heap.size w0 w1) (h2 : Below w1.heap.size w1 w2) : Below w0.heap.size w0 w2 :=
  h.trans (h2.mono h.size)
theorem bmk {w0 w1 : World} (h : Below w0.heap.size w0 w1) (o : Obj) : Below w0.heap.size w0 (w1.alloc o) := h.alloc h.size o
theorem bof (w0 : World) (o : Obj) : Below w0.heap.size w0 (w0.alloc o) := (Below.refl _ _).alloc (Nat.le_refl _) o
theorem bdrewN {B : Nat} {a w : World} (h : Below B a w) (n : Nat) : Below B a (w.drewN n) := ⟨h.os, h.tape, h.output, h.size, h.block⟩
theorem size_alloc' (w : World) (o : Obj) : (w.alloc o).heap.size = w.heap.size + 1 := by simp

/-! ### lists -/
section lists
variable {α β : Type} {l : List α} {k : Nat} {r : α}
theorem take_snoc' (h : l[k]? = some r) : l.take (k + 1) = l.take k ++ [r] := by rw [List.take_add_one, h]; rfl
theorem get_lt (h : l[k]? = some r) : k < l.length := (List.getElem?_eq_some_iff.1 h).1
theorem mem_of_get (h : l[k]? = some r) : r ∈ l := List.mem_of_getElem? h
theorem all_snoc {p : α → Bool} (h : l[k]? = some r) (h1 : (l.take k).all p = true) (h2 : p r = true) : (l.take (k + 1)).all p = true := by
  rw [take_snoc' h, List.all_append, h1]; simp [h2]
theorem all_not {p : α → Bool} (h : l[k]? = some r) (h2 : p r = false) : l.all p = false := by
  rw [List.all_eq_false]; exact ⟨r, mem_of_get h, by simp [h2]⟩
theorem all_end {p : α → Bool} (hk : l.length ≤ k) (h1 : (l.take k).all p = true) : l.all p = true := by
  rwa [List.take_of_length_le hk] at h1
theorem foldl_snoc {f : β → α → β} {a : β} (h : l[k]? = some r) : (l.take (k + 1)).foldl f a = f ((l.take k).foldl f a) r := by
  rw [take_snoc' h, List.foldl_append]; rfl
theorem map_snoc {f : α → β} (h : l[k]? = some r) : (l.take (k + 1)).map f = (l.take k).map f ++ [f r] := by rw [take_snoc' h, List.map_append]; rfl
theorem flatMap_len {f : α → List β} {s : Nat} (hf : ∀ a, (f a).length = s) (l : List α) : (l.flatMap f).length = l.length * s := by
  induction l with
  | nil => simp
  | cons a t ih => rw [List.flatMap_cons, List.length_append, hf, ih, List.length_cons, Nat.add_mul]; omega
theorem flatMap_get {f : α → List β} {s : Nat} (hf : ∀ a, (f a).length = s) : ∀ (l : List α) (k j : Nat) (r : α), l[k]? = some r → j < s → (l.flatMap f)[k * s + j]? = (f r)[j]?
  | [], k, j, r, h, _ => by simp at h
  | a :: t, 0, j, r, h, hj => by
    simp at h; subst h
    rw [List.flatMap_cons, List.getElem?_append_left (by rw [hf]; omega)]; simp
  | a :: t, k + 1, j, r, h, hj => by
    rw [List.flatMap_cons, List.getElem?_append_right (by rw [hf, Nat.add_mul]; omega), hf]
    rw [show (k + 1) * s + j - s = k * s + j by rw [Nat.add_mul]; omega]
    exact flatMap_get hf t k j r (by simpa using h) hj
theorem flatMap_take {f : α → List β} {s : Nat} (hf : ∀ a, (f a).length = s) : ∀ (l : List α) (k : Nat), (l.take k).flatMap f = (l.flatMap f).take (k * s)
  | [], k => by simp
  | a :: t, 0 => by simp
  | a :: t, k + 1 => by
    have h1 : (f a).length ≤ (k + 1) * s := by rw [hf, Nat.add_mul]; omega
    rw [List.take_succ_cons, List.flatMap_cons, List.flatMap_cons, List.take_append, flatMap_take hf t k, List.take_of_length_le h1, hf]
    rw [show (k + 1) * s - s = k * s by rw [Nat.add_mul]; omega]
theorem flatMap_drop {f : α → List β} {s : Nat} (hf : ∀ a, (f a).length = s) : ∀ (l : List α) (k : Nat), (l.drop k).flatMap f = (l.flatMap f).drop (k * s)
  | [], k => by simp
  | a :: t, 0 => by simp
  | a :: t, k + 1 => by
    have h1 : (f a).length ≤ (k + 1) * s := by rw [hf, Nat.add_mul]; omega
    rw [List.drop_succ_cons, List.flatMap_cons, List.drop_append, flatMap_drop hf t k, List.drop_of_length_le h1, hf]
    rw [show (k + 1) * s - s = k * s by rw [Nat.add_mul]; omega]; rfl
end lists

/-! ### a slice that reads as cells -/
/-- The slice value '.slice A n c' of elements of sz cells each reads, in w, as the cells xs. -/
structure Rd (w : World) (A : Option Addr) (n sz : Nat) (xs : List Value) : Prop where
  len : xs.length = n * sz
  cells : 0 < n → ∃ b off, A = some ⟨b, off, none⟩ ∧ b < w.heap.size ∧ ∀ j u, xs[j]? = some u → w.cell? ⟨b, off + j, none⟩ = some u
section rd
variable {w w' : World} {A : Option Addr} {n sz : Nat} {xs : List Value}
theorem Rd.nil (w : World) (A : Option Addr) (sz : Nat) : Rd w A 0 sz [] := ⟨by simp, fun h => absurd h (by omega)⟩
theorem Rd.below {B : Nat} (h : Rd w A n sz xs) (hB : w.heap.size ≤ B) (hb : Below B w w') : Rd w' A n sz xs :=
  ⟨h.len, fun hn => by
    obtain ⟨b, off, e, hl, hc⟩ := h.cells hn
    exact ⟨b, off, e, Nat.lt_of_lt_of_le hl hb.size, fun j u hu => (hb.cell (p := ⟨b, off + j, none⟩) (Nat.lt_of_lt_of_le hl hB)).trans (hc j u hu)⟩⟩
theorem Rd.next (h : Rd w A n sz xs) (hb : Below w.heap.size w w') : Rd w' A n sz xs := h.below (Nat.le_refl _) hb
theorem Rd.alloc (h : Rd w A n sz xs) (o : Obj) : Rd (w.alloc o) A n sz xs := h.next (bof w o)
theorem Rd.drew (h : Rd w A n sz xs) : Rd w.drew A n sz xs := ⟨h.len, h.cells⟩
theorem Rd.drewN (h : Rd w A n sz xs) (k : Nat) : Rd (w.drewN k) A n sz xs := ⟨h.len, h.cells⟩
theorem add_lit' (b off j : Nat) : (⟨b, off, none⟩ : Addr).add j = ⟨b, off + j, none⟩ := by unfold Addr.add; split <;> simp_all
theorem Rd.of_own {B e c : Nat} (h : w.ownsRow B e sz (.slice A n c) n xs) : Rd w A n sz xs :=
  ⟨h.1, fun hn => by
    rcases h.2 with ⟨_, h0⟩ | ⟨g, cap, cur, hv, _, hh, _⟩
    · omega
    · have hA : A = some ⟨g, 0, none⟩ := by injection hv
      subst hA
      refine ⟨g, 0, rfl, (Array.getElem?_eq_some_iff.1 hh).1, fun j u hu => ?_⟩
      have := h.cells (g := g) rfl j u hu
      rwa [add_lit'] at this⟩
/-- What an owned row's value is. -/
theorem own_form {B e : Nat} {v : Value} (h : w.ownsRow B e sz v n xs) : ∃ A c, v = .slice A n c ∧ n ≤ c ∧ c ≤ maxLen ∧ Rd w A n sz xs ∧ (A = none ∨ ∃ g, A = some ⟨g, 0, none⟩ ∧ B ≤ g ∧ g < w.heap.size) ∧ w.ownsRow B e sz (.slice A n c) n xs := by
  have h' := h
  rcases h.2 with ⟨rfl, rfl⟩ | ⟨g, cap, cur, rfl, hg, hh, hn, hm, _⟩
  · exact ⟨none, 0, rfl, Nat.le_refl _, by unfold maxLen; omega, Rd.of_own h', .inl rfl, h'⟩
  · exact ⟨_, cap, rfl, hn, hm, Rd.of_own h', .inr ⟨g, rfl, hg, (Array.getElem?_eq_some_iff.1 hh).1⟩, h'⟩
/-- A part of a slice: from the element i up to the element j, as the model writes its address. -/
theorem Rd.cut {i j : Nat} (h : Rd w A n sz xs) (hi : i ≤ j) (hj : j ≤ n) : Rd w (A.map (·.add (i * sz))) (j - i) sz ((xs.drop (i * sz)).take ((j - i) * sz)) := by
  have hm : j * sz ≤ n * sz := Nat.mul_le_mul_right _ hj
  have hs : (j - i) * sz = j * sz - i * sz := Nat.sub_mul ..
  refine ⟨by rw [List.length_take, List.length_drop, h.len]; omega, fun hn => ?_⟩
  obtain ⟨b, off, rfl, hl, hc⟩ := h.cells (by omega)
  refine ⟨b, off + i * sz, by simp [add_lit'], hl, fun q u hu => ?_⟩
  rw [List.getElem?_take] at hu
  split at hu
  · rw [List.getElem?_drop] at hu
    have := hc _ u hu
    rwa [Nat.add_assoc]
  · cases hu
theorem Rd.take {k : Nat} (h : Rd w A n sz xs) (hk : k ≤ n) : Rd w A k sz (xs.take (k * sz)) := by
  have hm : k * sz ≤ n * sz := Nat.mul_le_mul_right _ hk
  refine ⟨by rw [List.length_take, h.len]; omega, fun hn => ?_⟩
  obtain ⟨b, off, rfl, hl, hc⟩ := h.cells (by omega)
  refine ⟨b, off, rfl, hl, fun q u hu => ?_⟩
  rw [List.getElem?_take] at hu
  split at hu
  · exact hc _ u hu
  · cases hu
theorem Rd.congrA {A' : Option Addr} (h : Rd w A n sz xs) (e : 0 < n → A' = A) : Rd w A' n sz xs :=
  ⟨h.len, fun hn => by rw [e hn]; exact h.cells hn⟩
end rd

/-- The slice value '.slice A n c' reads as the cells xs (n elements of sz cells each), and its capacity is one. -/
def Sl (w : World) (A : Option Addr) (n c sz : Nat) (xs : List Value) : Prop := Rd w A n sz xs ∧ n ≤ c ∧ c ≤ 9223372036854775807
section sl
variable {w w' : World} {A : Option Addr} {n c sz : Nat} {xs : List Value}
theorem Sl.bd (h : Sl w A n c sz xs) : n ≤ c ∧ c ≤ 9223372036854775807 := h.2
theorem Sl.next (h : Sl w A n c sz xs) (hb : Below w.heap.size w w') : Sl w' A n c sz xs := ⟨h.1.next hb, h.2⟩
theorem Sl.below {B : Nat} (h : Sl w A n c sz xs) (hB : w.heap.size ≤ B) (hb : Below B w w') : Sl w' A n c sz xs := ⟨h.1.below hB hb, h.2⟩
theorem Sl.of_own {B e : Nat} (h : w.ownsRow B e sz (.slice A n c) n xs) : Sl w A n c sz xs := by
  refine ⟨Rd.of_own h, ?_⟩
  rcases h.2 with ⟨hv, rfl⟩ | ⟨g, cap, cur, hv, _, _, hn, hm, _⟩
  · injection hv with _ _ hc; subst hc; omega
  · injection hv with _ _ hc; subst hc; unfold maxLen at hm; exact ⟨hn, hm⟩
end sl

/-! ### rows of the call's own -/
theorem own_next {w w' : World} {B e sz n : Nat} {v : Value} {xs : List Value} (h : w.ownsRow B e sz v n xs) (hb : Below w.heap.size w w') : w'.ownsRow B e sz v n xs :=
  h.kept (row := none) ⟨hb.os, hb.tape, hb.output, hb.size, fun i hi _ => hb.block i hi⟩ (by cases hv : v.ownBlock <;> simp)
theorem own_base {w : World} {B B' e sz n : Nat} {v : Value} {xs : List Value} (h : w.ownsRow B e sz v n xs) (hB : B' ≤ B) : w.ownsRow B' e sz v n xs := by
  refine ⟨h.1, ?_⟩
  rcases h.2 with h | ⟨g, cap, cur, hv, hg, r⟩
  · exact .inl h
  · exact .inr ⟨g, cap, cur, hv, Nat.le_trans hB hg, r⟩
/-- What was owned before another row was made is another block. -/
theorem own_apart {w1 w2 : World} {B1 B2 e1 e2 s1 s2 n1 n2 : Nat} {v1 v2 : Value} {xs1 xs2 : List Value} (h1 : w1.ownsRow B1 e1 s1 v1 n1 xs1) (h2 : w2.ownsRow B2 e2 s2 v2 n2 xs2) (hle : w1.heap.size ≤ B2) :
    v1.ownBlock = none ∨ v1.ownBlock ≠ v2.ownBlock := by
  cases hv : v1.ownBlock with
  | none => exact .inl rfl
  | some g =>
    refine .inr (fun e => ?_)
    have a := (h1.lt g hv).2
    have b := (h2.lt g e.symm).1
    omega
theorem own_apart' {w1 w2 : World} {B1 B2 e1 e2 s1 s2 n1 n2 : Nat} {v1 v2 : Value} {xs1 xs2 : List Value} (h1 : w1.ownsRow B1 e1 s1 v1 n1 xs1) (h2 : w2.ownsRow B2 e2 s2 v2 n2 xs2) (hle : w1.heap.size ≤ B2) :
    v2.ownBlock = none ∨ v2.ownBlock ≠ v1.ownBlock := by
  cases hv : v2.ownBlock with
  | none => exact .inl rfl
  | some g =>
    refine .inr (fun e => ?_)
    have a := (h1.lt g e.symm).2
    have b := (h2.lt g hv).1
    omega
/-- A write into a row that was made behind the world w0 turns nothing that was there. -/
theorem b_own {w0 w w' : World} {B e sz n : Nat} {v : Value} {xs : List Value} (h : Below w0.heap.size w0 w) (ho : w.ownsRow B e sz v n xs) (hB : w0.heap.size ≤ B) (hg : w.grownBy w' v.ownBlock) : Below w0.heap.size w0 w' :=
  h.grown hg h.size (fun k hk => Nat.le_trans hB (ho.lt k hk).1)

/-! ### slices of int -/
def IntsAt (w : World) (A : Option Addr) (n c : Nat) (xs : List Int) : Prop := Sl w A n c 1 (xs.map (Value.int .i64))
section ints
variable {w w' : World} {A : Option Addr} {n c k : Nat} {xs : List Int}
theorem IntsAt.len (h : IntsAt w A n c xs) : xs.length = n := by have := Rd.len h.1; simpa using this
theorem IntsAt.bd (h : IntsAt w A n c xs) : n ≤ c ∧ c ≤ 9223372036854775807 := h.2
theorem IntsAt.at_ (h : IntsAt w A n c xs) (hk : k < n) : ∃ b off x, A = some ⟨b, off, none⟩ ∧ b < w.heap.size ∧ xs[k]? = some x ∧ w.cell? ⟨b, off + k, none⟩ = some (.int .i64 x) := by
  obtain ⟨b, off, e, hl, hc⟩ := Rd.cells h.1 (by omega)
  have hlen := h.len
  have hx : xs[k]? = some (xs[k]'(by omega)) := List.getElem?_eq_getElem (by omega)
  exact ⟨b, off, xs[k]'(by omega), e, hl, hx, hc k _ (by rw [List.getElem?_map, hx]; rfl)⟩
theorem IntsAt.next (h : IntsAt w A n c xs) (hb : Below w.heap.size w w') : IntsAt w' A n c xs := Sl.next h hb
theorem IntsAt.below {B : Nat} (h : IntsAt w A n c xs) (hB : w.heap.size ≤ B) (hb : Below B w w') : IntsAt w' A n c xs := Sl.below h hB hb
theorem IntsAt.nil (w : World) (A : Option Addr) (c : Nat) (hc : c ≤ 9223372036854775807) : IntsAt w A 0 c [] := ⟨Rd.nil _ _ _, Nat.zero_le _, hc⟩
end ints
/-! ### a code -/
def BytesAt (w : World) (A : Option Addr) (n : Nat) (xs : List Int) : Prop := Rd w A n 1 (xs.map (Value.int .u8)) ∧ ∀ x ∈ xs, 0 ≤ x ∧ x ≤ 255
section bytes
variable {w w' : World} {A : Option Addr} {n k : Nat} {xs : List Int}
theorem BytesAt.len (h : BytesAt w A n xs) : xs.length = n := by have := Rd.len h.1; simpa using this
theorem BytesAt.at_ (h : BytesAt w A n xs) (hk : k < n) : ∃ b off x, A = some ⟨b, off, none⟩ ∧ b < w.heap.size ∧ 0 ≤ x ∧ x ≤ 255 ∧ w.cell? ⟨b, off + k, none⟩ = some (.int .u8 x) := by
  obtain ⟨b, off, e, hl, hc⟩ := Rd.cells h.1 (by omega)
  have hlen := h.len
  have hx : xs[k]? = some (xs[k]'(by omega)) := List.getElem?_eq_getElem (by omega)
  exact ⟨b, off, xs[k]'(by omega), e, hl, (h.2 _ (List.getElem_mem _)).1, (h.2 _ (List.getElem_mem _)).2, hc k _ (by rw [List.getElem?_map, hx]; rfl)⟩
end bytes
/-- A slice of bytes in a code: what a law is handed. -/
def CodeAt (w : World) (A : Option Addr) (n c : Nat) (xs : List Int) : Prop := BytesAt w A n xs ∧ n ≤ c ∧ c ≤ maxLen
theorem CodeAt.next {w w' : World} {A : Option Addr} {n c : Nat} {xs : List Int} (h : CodeAt w A n c xs) (hb : Below w.heap.size w w') : CodeAt w' A n c xs := ⟨⟨h.1.1.next hb, h.1.2⟩, h.2⟩

theorem drop_get {α : Type} {l : List α} {k : Nat} {r : α} (h : l[k]? = some r) : l.drop k = r :: l.drop (k + 1) := by
  obtain ⟨hk, rfl⟩ := List.getElem?_eq_some_iff.1 h
  exact List.drop_eq_getElem_cons hk
theorem drop_end {α : Type} {l : List α} {k : Nat} (h : l.length ≤ k) : l.drop k = [] := List.drop_eq_nil_of_le h
theorem take_set {α : Type} {ys : List α} {k : Nat} (hk : k < ys.length) (u : α) : (ys.set k u).take (k + 1) = ys.take k ++ [u] := by
  rw [List.take_add_one, List.take_set_of_le (Nat.le_refl _)]
  simp [hk]
theorem wrap_ok {a : Int} (h : -9223372036854775808 ≤ a ∧ a ≤ 9223372036854775807) : wrap64 a = a := IntWalk.wrap64_in a h

/-! ### a block that is known whole -/
def Blk (w : World) (g : Nat) (t : TypeId) (cs : Array Value) : Prop := w.heap[g]? = some (.cells cs t (0, 0))
section blk
variable {w w' : World} {g : Nat} {t : TypeId} {cs : Array Value}
theorem Blk.lt (h : Blk w g t cs) : g < w.heap.size := (Array.getElem?_eq_some_iff.1 h).1
theorem Blk.cell (h : Blk w g t cs) (i : Nat) : w.cell? ⟨g, i, none⟩ = cs[i]? := cell_of_row w g i cs t (0, 0) h
theorem Blk.frozen (h : Blk w g t cs) (i : Nat) : w.frozen? ⟨g, i, none⟩ = false := frozen_of_row w g i cs t h
theorem Blk.new (w : World) (t : TypeId) (cs : Array Value) : Blk (w.alloc (.cells cs t)) w.heap.size t cs := heap_alloc_new w _
theorem Blk.alloc (h : Blk w g t cs) (o : Obj) : Blk (w.alloc o) g t cs := (Below.heap_alloc w o g h.lt).trans h
theorem Blk.set_ (h : Blk w g t cs) (i : Nat) (u : Value) : Blk (w.setCell ⟨g, i, none⟩ u) g t (cs.setIfInBounds i u) := heap_setCell_same w g i cs t u h
theorem Blk.far (h : Blk w g t cs) {p : Addr} (hp : g ≠ p.block) (u : Value) : Blk (w.setCell p u) g t cs := (Below.heap_setCell w p u g hp).trans h
theorem Blk.grown {row : Option Nat} (h : Blk w g t cs) (hb : w.grownBy w' row) (hg : some g ≠ row) : Blk w' g t cs := (hb.block g h.lt hg).trans h
theorem Blk.next (h : Blk w g t cs) (hb : Below w.heap.size w w') : Blk w' g t cs := (hb.block g h.lt).trans h
theorem Blk.drew (h : Blk w g t cs) : Blk w.drew g t cs := h
end blk
#print axioms Rd.cut
end Go.Proofs.Ytadcbigioldejaa
