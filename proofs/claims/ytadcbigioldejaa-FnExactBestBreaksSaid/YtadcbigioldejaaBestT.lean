/- Tables of rows of four: in memory, and what they say of the best breaks. No condition. -/
import Derived.Test.YtadcbigioldejaaBestP
import Derived.Test.YtadcbigioldejaaCost4
import Derived.OwnWalk
namespace Go.Proofs.Ytadcbigioldejaa
open Go.RowKit
set_option linter.unusedVariables false

/-! ### a block whose cells are told by a function -/
def upd {α : Type} (f : Nat → α) (k : Nat) (u : α) : Nat → α := fun i => if i = k then u else f i
theorem upd_same {α : Type} (f : Nat → α) (k : Nat) (u : α) : upd f k u k = u := by simp [upd]
theorem upd_ne {α : Type} (f : Nat → α) {k i : Nat} (u : α) (h : i ≠ k) : upd f k u i = f i := by simp [upd, h]
def Tab (w : World) (g : Nat) (t : TypeId) (N : Nat) (f : Nat → Value) : Prop := Blk w g t (Array.ofFn (n := N) fun i => f i.val)
section tab
variable {w w' : World} {g N k : Nat} {t : TypeId} {f : Nat → Value}
theorem Tab.lt (h : Tab w g t N f) : g < w.heap.size := Blk.lt h
theorem Tab.cell (h : Tab w g t N f) (hk : k < N) : w.cell? ⟨g, k, none⟩ = some (f k) := by
  rw [Blk.cell h k]; simp [hk]
theorem Tab.frozen (h : Tab w g t N f) (k : Nat) : w.frozen? ⟨g, k, none⟩ = false := Blk.frozen h k
theorem Tab.next (h : Tab w g t N f) (hb : Below w.heap.size w w') : Tab w' g t N f := Blk.next h hb
theorem Tab.alloc (h : Tab w g t N f) (o : Obj) : Tab (w.alloc o) g t N f := Blk.alloc h o
theorem Tab.drew (h : Tab w g t N f) : Tab w.drew g t N f := h
theorem Tab.grown {row : Option Nat} (h : Tab w g t N f) (hb : w.grownBy w' row) (hg : some g ≠ row) : Tab w' g t N f := Blk.grown h hb hg
theorem Tab.far (h : Tab w g t N f) {p : Addr} (hp : g ≠ p.block) (u : Value) : Tab (w.setCell p u) g t N f := Blk.far h hp u
theorem Tab.put (h : Tab w g t N f) (k : Nat) (u : Value) : Tab (w.setCell ⟨g, k, none⟩ u) g t N (upd f k u) := by
  have h1 := Blk.set_ h k u
  unfold Tab
  have e : (Array.ofFn (n := N) fun i => f i.val).setIfInBounds k u = Array.ofFn (n := N) fun i => upd f k u i.val := by
    apply Array.ext
    · simp
    · intro i h1 h2
      simp at h1
      rw [Array.getElem_setIfInBounds (by simpa using h1)]
      by_cases hik : k = i
      · subst hik; simp [upd]
      · rw [if_neg hik]; simp [upd, show i ≠ k by omega]
  rw [← e]; exact h1
theorem Tab.putI {V : Nat → Int} (h : Tab w g t N fun i => .int .i64 (V i)) (k : Nat) (x : Int) : Tab (w.setCell ⟨g, k, none⟩ (.int .i64 x)) g t N fun i => .int .i64 (upd V k x i) := by
  have := h.put k (.int .i64 x)
  have e : upd (fun i => Value.int .i64 (V i)) k (.int .i64 x) = fun i => .int .i64 (upd V k x i) := by
    funext i; unfold upd; split <;> rfl
  rwa [e] at this
theorem Tab.putB {V : Nat → Bool} (h : Tab w g t N fun i => .bool (V i)) (k : Nat) (x : Bool) : Tab (w.setCell ⟨g, k, none⟩ (.bool x)) g t N fun i => .bool (upd V k x i) := by
  have := h.put k (.bool x)
  have e : upd (fun i => Value.bool (V i)) k (.bool x) = fun i => .bool (upd V k x i) := by
    funext i; unfold upd; split <;> rfl
  rwa [e] at this
theorem tab_made (w : World) (t : TypeId) (u : Value) (s n : Nat) (hs : 0 < s) : Tab (w.alloc (.cells (madeCells (Array.replicate s u) n) t)) w.heap.size t n fun _ => u := by
  have h := Blk.new w t (madeCells (Array.replicate s u) n)
  unfold Tab
  have e : madeCells (Array.replicate s u) n = Array.ofFn (n := n) fun _ => u := by
    apply Array.ext
    · simp [madeCells]
    · intro i h1 h2
      have hm : i % s < s := Nat.mod_lt _ hs
      simp [madeCells, hm]
  rw [← e]; exact h
theorem tab_at {V : Nat → Int} (h : Tab w g t N fun i => .int .i64 (V i)) (hk : k < N) : w.cell? ⟨g, k, none⟩ = some (.int .i64 (V k)) := h.cell hk
theorem tab_atB {V : Nat → Bool} (h : Tab w g t N fun i => .bool (V i)) (hk : k < N) : w.cell? ⟨g, k, none⟩ = some (.bool (V k)) := h.cell hk
end tab
/-- 'make' of a slice of a length, with its world told. -/
theorem wpList_make_tab {P : Program} (w : World) {ops : Array Oper} {rest : List Oper} {o : Oper} {a : Act} {Q : Exit → Act → World → Prop}
    (hg : o.guard = none) (l c : Operand) (t : TypeId) (hop : o.op = Op.makeSlice t l c)
    (e : TypeId) (i : TypeInfo) (z : Value) (size : Nat) (h1 : P.underlying t = some (.slice e)) (h2 : P.info? e = some i) (h3 : i.zero = some z) (h4 : i.size = size)
    (n : Nat) (L : Int) (hl : a.eval l = .int .i64 L) (hc : a.eval c = .int .i64 L) (hL : L = n) (b1 : n * size ≤ 16777216) (b2 : (i.bytes : Int) * n ≤ 281474976710656) (b3 : n ≤ 1000000)
    (hK : wpList P ops Q rest (a.put o.dst (.slice (some ⟨w.heap.size, 0, none⟩) n n)) (w.alloc (.cells (madeCells z.cells (n * size)) e))) :
    wpList P ops Q (o :: rest) a w := by
  refine wpList_plain hg fun K hK' => ?_
  subst hL
  have hrun := run_makeSlice (P := P) w t e i z h1 h2 h3 .i64 .i64 (n : Int) (n : Int) (by omega) (by omega) (by rw [h4]; simpa using b1) b2 (by omega)
  unfold Oper.wp
  simp [execOp, hop, hl, hc, hrun, Result.andThen]
  refine hK' _ _ ?_
  rw [h4]; exact hK

/-! ### what the tables say -/
structure CellIs (c : Ch) (v : Int) (g : Bool) (x : Int) : Prop where
  good : g = decide (0 ≤ c.cost)
  val : 0 ≤ c.cost → v = c.cost ∧ x = c.nx.at_
def stAt (rs : List Item) (r b : Nat) : St := ⟨(r : Int) - 1, markOf rs ((r : Int) - 1), b⟩
/-- A row in which the look of the line before is below k: as F says; else: as E says. -/
def RowIs (E F : Nat → Ch) (k : Nat) (V : Nat → Int) (G : Nat → Bool) (X : Nat → Int) (r : Nat) : Prop :=
  ∀ b, b < 4 → CellIs (if b < k then F b else E b) (V (r * 4 + b)) (G (r * 4 + b)) (X (r * 4 + b))
def rowAsked (rs : List Item) (r : Nat) : Prop := r = 0 ∨ r = rs.length ∨ breakB rs (r - 1) = true
/-- The rows from r0 on are done. -/
def RowsDone (rs : List Item) (width most : Int) (V : Nat → Int) (G : Nat → Bool) (X : Nat → Int) (r0 : Nat) : Prop :=
  ∀ r, r0 ≤ r → r ≤ rs.length → rowAsked rs r → RowIs (fun b => best rs width most (stAt rs r b)) (fun b => best rs width most (stAt rs r b)) 0 V G X r
def RowsNew (G : Nat → Bool) (r0 : Nat) : Prop := ∀ i, i < r0 * 4 → G i = false
section
variable {rs : List Item} {width most : Int} {V X : Nat → Int} {G : Nat → Bool} {E F : Nat → Ch} {r r0 k : Nat}
theorem cell_new (v x : Int) : CellIs Ch.none v false x := ⟨by simp [Ch.none], fun h => by simp [Ch.none] at h⟩
theorem row_new (h : RowsNew G (r + 1)) : RowIs (fun b => accN rs width most (best rs width most) (stAt rs r b) 0) F 0 V G X r := by
  intro b hb
  rw [if_neg (by omega), h (r * 4 + b) (by omega)]
  exact cell_new _ _
theorem row_congr {E' : Nat → Ch} (h : RowIs E F 0 V G X r) (he : ∀ b, b < 4 → E' b = E b) : RowIs E' F 0 V G X r := by
  intro b hb
  have := h b hb
  rw [if_neg (by omega)] at this ⊢
  rwa [he b hb]
theorem row_full (h : RowIs E F 4 V G X r) (F' : Nat → Ch) : RowIs F F' 0 V G X r := by
  intro b hb
  have := h b hb
  rw [if_pos hb] at this
  rwa [if_neg (by omega)]
theorem row_begin (h : RowIs E F 0 V G X r) (F' : Nat → Ch) : RowIs E F' 0 V G X r := by
  intro b hb
  have := h b hb
  rw [if_neg (by omega)] at this ⊢
  exact this
theorem row_keep (h : RowIs E F k V G X r) (hk : k < 4) (he : F k = E k) : RowIs E F (k + 1) V G X r := by
  intro b hb
  have := h b hb
  by_cases h1 : b < k
  · rw [if_pos h1] at this; rwa [if_pos (by omega)]
  · rw [if_neg h1] at this
    by_cases h2 : b = k
    · subst h2; rw [if_pos (by omega), he]; exact this
    · rwa [if_neg (by omega)]
theorem row_put (h : RowIs E F k V G X r) (hk : k < 4) (h0 : 0 ≤ (F k).cost) : RowIs E F (k + 1) (upd V (r * 4 + k) (F k).cost) (upd G (r * 4 + k) true) (upd X (r * 4 + k) (F k).nx.at_) r := by
  intro b hb
  have := h b hb
  by_cases h2 : b = k
  · subst h2
    rw [if_pos (by omega), upd_same, upd_same, upd_same]
    exact ⟨by simp [h0], fun _ => ⟨rfl, rfl⟩⟩
  · rw [upd_ne _ _ (by omega), upd_ne _ _ (by omega), upd_ne _ _ (by omega)]
    by_cases h1 : b < k
    · rw [if_pos h1] at this; rwa [if_pos (by omega)]
    · rw [if_neg h1] at this; rwa [if_neg (by omega)]
/-- A store into row r leaves the rows above it. -/
theorem done_put (h : RowsDone rs width most V G X r0) (hr : r < r0) (hk : k < 4) (v x : Int) (g : Bool) : RowsDone rs width most (upd V (r * 4 + k) v) (upd G (r * 4 + k) g) (upd X (r * 4 + k) x) r0 := by
  intro q hq hn ha b hb
  have := h q hq hn ha b hb
  rw [upd_ne _ _ (by omega), upd_ne _ _ (by omega), upd_ne _ _ (by omega)]
  exact this
theorem new_put (h : RowsNew G r) (g : Bool) : RowsNew (upd G (r * 4 + k) g) r := by
  intro i hi
  rw [upd_ne _ _ (by omega)]
  exact h i hi
theorem new_down (h : RowsNew G (r + 1)) : RowsNew G r := fun i hi => h i (by omega)
theorem done_end (hV : ∀ b, b < 4 → V (rs.length * 4 + b) = 0 ∧ G (rs.length * 4 + b) = true ∧ X (rs.length * 4 + b) = 0) : RowsDone rs width most V G X rs.length := by
  intro q hq hn ha b hb
  obtain rfl : q = rs.length := by omega
  obtain ⟨h1, h2, h3⟩ := hV b hb
  rw [if_neg (by omega)]
  dsimp only
  rw [best_end (by simp [stAt]), h1, h2, h3]
  exact ⟨by simp [Ch.zero], fun _ => ⟨rfl, rfl⟩⟩
theorem done_skip (h : RowsDone rs width most V G X (r + 1)) (hn : ¬ rowAsked rs r) : RowsDone rs width most V G X r := by
  intro q hq hl ha
  by_cases e : q = r
  · subst e; exact absurd ha hn
  · exact h q (by omega) hl ha
theorem done_row (h : RowsDone rs width most V G X (r + 1)) (hr : RowIs (fun b => best rs width most (stAt rs r b)) (fun b => best rs width most (stAt rs r b)) 0 V G X r) : RowsDone rs width most V G X r := by
  intro q hq hl ha
  by_cases e : q = r
  · subst e; exact hr
  · exact h q (by omega) hl ha
theorem left_stAt (hr : r ≤ rs.length) (b : Nat) : left rs (stAt rs r b) = rs.length - r := by unfold left stAt; dsimp only; omega
theorem row_last (h : RowIs (fun b => accN rs width most (best rs width most) (stAt rs r b) (rs.length - r)) F 0 V G X r) (hr : r < rs.length) : RowIs (fun b => best rs width most (stAt rs r b)) (fun b => best rs width most (stAt rs r b)) 0 V G X r := by
  intro b hb
  have := h b hb
  rw [if_neg (by omega)] at this ⊢
  dsimp only at this ⊢
  rw [best_eq (by simp [stAt]; omega) (by simp [stAt]; omega), left_stAt (by omega)]
  exact this
/-- No line from there to there: nothing turns. -/
theorem acc_skip {s : St} {j m : Nat} (hm : (rs.length - 1 - j : Nat) = m) (h : stepOf rs width most s (m : Int) = none) : accN rs width most (best rs width most) s (j + 1) = accN rs width most (best rs width most) s j := by
  rw [accN, updC, hm, h]
theorem acc_step {s e : St} {j m : Nat} {q : Int} (hm : (rs.length - 1 - j : Nat) = m) (h : stepOf rs width most s (m : Int) = some (q, e)) : accN rs width most (best rs width most) s (j + 1) =
    if 0 ≤ (best rs width most e).cost ∧ ((accN rs width most (best rs width most) s j).cost < 0 ∨ q + (best rs width most e).cost < (accN rs width most (best rs width most) s j).cost) then ⟨q + (best rs width most e).cost, e⟩ else accN rs width most (best rs width most) s j := by
  rw [accN, updC, hm, h]
theorem follow_first {m m' : Bool} {l l' : Int} (hn : 0 < rs.length) (f : Nat) : follow rs width most f ⟨-1, m, l⟩ = follow rs width most f ⟨-1, m', l'⟩ := by
  cases f with
  | zero => rfl
  | succ f =>
    rw [follow, follow, best_first (m := m) (m' := m') (l := l) (l' := l') hn]
/-- The state that comes next, as the reference has it. -/
theorem next_st {s : St} (h1 : -1 ≤ s.at_) (h2 : s.at_ < (rs.length : Int) - 1) (hc : 0 ≤ (best rs width most s).cost) :
    0 ≤ (lineBad rs s.at_ (best rs width most s).nx.at_ width).1 ∧ (best rs width most s).nx.looks = looksOf (lineBad rs s.at_ (best rs width most s).nx.at_ width).2 (lineBad rs s.at_ (best rs width most s).nx.at_ width).1 := by
  rcases best_ok (rs := rs) (width := width) (most := most) h1 h2 with h | ⟨k, hs, h0, _⟩
  · rw [h] at hc; simp [Ch.none] at hc
  · unfold stepOf at hs
    split at hs
    · cases hs
    · rename_i hn
      refine ⟨by omega, ?_⟩
      simp only [Option.some.injEq, Prod.mk.injEq] at hs
      have := congrArg St.looks hs.2
      exact this.symm
end
theorem row_put' {E F : Nat → Ch} {k r : Nat} {V X : Nat → Int} {G : Nat → Bool} {S x : Int} {ex : St} (h : RowIs E F k V G X r) (hk : k < 4) (hF : F k = ⟨S, ex⟩) (h0 : 0 ≤ S) (hx : ex.at_ = x) : RowIs E F (k + 1) (upd V (r * 4 + k) S) (upd G (r * 4 + k) true) (upd X (r * 4 + k) x) r := by
  have := row_put h hk (by rw [hF]; exact h0)
  rw [hF] at this
  rw [← hx]; exact this
theorem tab_made4 (w : World) (t : TypeId) (u : Value) (n : Nat) : Tab (w.alloc (.cells (madeCells #[u, u, u, u] n) t)) w.heap.size t n fun _ => u := tab_made w t u 4 n (by omega)
section
variable {rs : List Item} {width most : Int} {V X : Nat → Int} {G : Nat → Bool}
theorem lineBad_in {after to : Int} (hv : itemsValid rs = true) (hl : lineOk rs after to = true) (hw : 0 ≤ width ∧ width ≤ 1000) : lineBad rs after to width = badOf (lineTot rs after to) width := by
  rw [lineBad, if_pos (fitsB_iff.2 ⟨hv, hl, hw⟩)]
theorem step_notOk {s : St} {to : Int} (hl : lineOk rs s.at_ to = false) : stepOf rs width most s to = none := by
  have : lineBad rs s.at_ to width = (-1, false) := by
    rw [lineBad, fitsB, hl]; simp
  rw [stepOf, this]; simp
theorem step_no {s : St} {to bad : Int} {st : Bool} (h : lineBad rs s.at_ to width = (bad, st)) (hn : bad < 0 ∨ most < bad) : stepOf rs width most s to = none := by
  rw [stepOf, h, if_pos hn]
theorem lineOk_break {after : Int} {m : Nat} (h : lineOk rs after (m : Int) = true) : breakB rs m = true := by
  simp only [lineOk, Bool.and_eq_true] at h
  have := h.2.1
  rwa [mayB_nat] at this
theorem stAt_zero {b : Nat} (hn : 0 < rs.length) : best rs width most (stAt rs 0 b) = best rs width most St.start := best_first hn
theorem follow_zero {b : Nat} (hn : 0 < rs.length) (f : Nat) : follow rs width most f (stAt rs 0 b) = follow rs width most f St.start := follow_first hn f
/-- The states that can come behind a row: those of the rows below. -/
theorem end_st {m : Nat} {L : Nat} : (⟨(m : Int), (itAt rs m).mark, (L : Int)⟩ : St) = stAt rs (m + 1) L := by
  unfold stAt
  have e : (((m + 1 : Nat) : Int) - 1) = (m : Int) := by omega
  rw [e]
  simp [markOf]
end
end Go.Proofs.Ytadcbigioldejaa
