/- What is known of memory while pages are made: the pages so far, the figures that wait, the page under way; no two of them in one block. No condition. -/
import Derived.Test.YtfflnkkhemaanaaLeavesM
namespace Go.Proofs.Ytfflnkkhemaanaa
open Go.RowKit
set_option linter.unusedVariables false

def blkOf (A : Option Addr) : Option Nat := A.map Addr.block
theorem ownBlock_blk (A : Option Addr) (n c : Nat) : (Value.slice A n c).ownBlock = blkOf A := by cases A <;> rfl
def Dj (x y : Option Nat) : Prop := ∀ b, x = some b → y ≠ some b
theorem Dj.symm {x y : Option Nat} (h : Dj x y) : Dj y x := fun b hy hx => h b hx hy
theorem own_dj {w w' : World} {B e sz n m c : Nat} {A : Option Addr} {xs : List Value} {row : Option Nat} (h : w.ownsRow B e sz (.slice A m c) n xs) (hg : w.grownBy w' row) (hd : Dj row (blkOf A)) : w'.ownsRow B e sz (.slice A m c) n xs :=
  h.kept hg (by
    rw [ownBlock_blk]
    cases hA : blkOf A with
    | none => exact .inl rfl
    | some b => exact .inr (fun e => hd b e.symm hA))
theorem q_dj {w w' : World} {B c : Nat} {A : Option Addr} {xs : List Int} {row : Option Nat} (h : OwnQ w B A c xs) (hg : w.grownBy w' row) (hd : Dj row (blkOf A)) : OwnQ w' B A c xs :=
  h.kept hg (fun a ha e => hd a.block e.symm (by rw [ha]; rfl))
theorem blk_lt {w : World} {B e sz n m c : Nat} {A : Option Addr} {xs : List Value} (h : w.ownsRow B e sz (.slice A m c) n xs) {b : Nat} (hb : blkOf A = some b) : B ≤ b ∧ b < w.heap.size :=
  World.ownsRow.lt h b (by rw [ownBlock_blk]; exact hb)
theorem q_lt {w : World} {B c : Nat} {A : Option Addr} {xs : List Int} (h : OwnQ w B A c xs) {b : Nat} (hb : blkOf A = some b) : B ≤ b ∧ b < w.heap.size := by
  cases hA : A with
  | none => rw [hA] at hb; cases hb
  | some a =>
    rw [hA] at hb
    have : a.block = b := by simpa [blkOf] using hb
    subst this; exact h.lt hA
theorem OwnL.dj {w w' : World} {B c : Nat} {A : Option Addr} {ls : List LfV} {row : Option Nat} (h : OwnL w B A c ls) (hg : w.grownBy w' row) (h1 : Dj row (blkOf A)) (h2 : ∀ l ∈ ls, Dj row (blkOf l.A)) : OwnL w' B A c ls :=
  ⟨own_dj h.row hg h1, fun l hl => own_dj (h.figs l hl) hg (h2 l hl), h.apart, h.dist⟩
/-- Between pages. -/
structure OutM (B : Nat) (w : World) (AO : Option Addr) (cO : Nat) (acc : List LfV) (AW : Option Addr) (cW : Nat) (wait : List Int) : Prop where
  out : OwnL w B AO cO acc
  q : OwnQ w B AW cW wait
  d1 : Dj (blkOf AO) (blkOf AW)
  d2 : ∀ l ∈ acc, Dj (blkOf l.A) (blkOf AW)
/-- A page under way: its box in block gl, its figures. -/
structure PageM (B : Nat) (w : World) (AO : Option Addr) (cO : Nat) (acc : List LfV) (AW : Option Addr) (cW : Nat) (wait : List Int) (gl : Nat) (bx : Array Value) (AF : Option Addr) (cF : Nat) (figs : List Int) : Prop where
  o : OutM B w AO cO acc AW cW wait
  box : Blk w gl 26 bx
  glB : B ≤ gl
  fig : OwnI w B AF cF figs
  e1 : blkOf AO ≠ some gl
  e2 : blkOf AW ≠ some gl
  e3 : blkOf AF ≠ some gl
  e4 : ∀ l ∈ acc, blkOf l.A ≠ some gl
  f1 : Dj (blkOf AO) (blkOf AF)
  f2 : Dj (blkOf AW) (blkOf AF)
  f3 : ∀ l ∈ acc, Dj (blkOf l.A) (blkOf AF)
section
variable {B : Nat} {w w' : World} {AO : Option Addr} {cO : Nat} {acc : List LfV} {AW : Option Addr} {cW : Nat} {wait : List Int} {gl : Nat} {bx : Array Value} {AF : Option Addr} {cF : Nat} {figs : List Int}
theorem dj_none (y : Option Nat) : Dj none y := fun _ h => by cases h
theorem OutM.next (h : OutM B w AO cO acc AW cW wait) (hb : Below w.heap.size w w') : OutM B w' AO cO acc AW cW wait :=
  ⟨h.out.next hb, h.q.next hb, h.d1, h.d2⟩
theorem PageM.next (h : PageM B w AO cO acc AW cW wait gl bx AF cF figs) (hb : Below w.heap.size w w') : PageM B w' AO cO acc AW cW wait gl bx AF cF figs :=
  ⟨h.o.next hb, h.box.next hb, h.glB, OwnI.next h.fig hb, h.e1, h.e2, h.e3, h.e4, h.f1, h.f2, h.f3⟩
theorem OutM.start (w : World) (B : Nat) : OutM B w none 0 [] none 0 [] := ⟨OwnL.nil_ _ _, OwnQ.nil_ _ _, dj_none _, by simp⟩
/-- A new page in a new box. -/
theorem OutM.open_ (h : OutM B w AO cO acc AW cW wait) (bx : Array Value) (hB : B ≤ w.heap.size) : PageM B (w.alloc (.cells bx 26)) AO cO acc AW cW wait w.heap.size bx none 0 [] := by
  refine ⟨h.next (bof _ _), Blk.new _ _ _, hB, OwnI.nil_ _ _, ?_, ?_, by simp [blkOf], ?_, ?_, ?_, ?_⟩
  · intro e; have := (blk_lt h.out.row e).2; omega
  · intro e; have := (q_lt h.q e).2; omega
  · intro l hl e; have := (blk_lt (h.out.figs l hl) e).2; omega
  · intro b _; simp [blkOf]
  · intro b _; simp [blkOf]
  · intro l hl b _; simp [blkOf]
theorem PageM.set_ (h : PageM B w AO cO acc AW cW wait gl bx AF cF figs) (j : Nat) (u : Value) : PageM B (w.setCell ⟨gl, j, none⟩ u) AO cO acc AW cW wait gl (bx.setIfInBounds j u) AF cF figs := by
  have hg : w.grownBy (w.setCell ⟨gl, j, none⟩ u) (some gl) := gset (grefl w (some gl)) (.inl rfl) u
  have hd : ∀ {x : Option Nat}, x ≠ some gl → Dj (some gl) x := fun hx b hb => by injection hb with hb; subst hb; exact hx
  exact ⟨⟨h.o.out.dj hg (hd h.e1) (fun l hl => hd (h.e4 l hl)), q_dj h.o.q hg (hd h.e2), h.o.d1, h.o.d2⟩, h.box.set_ j u, h.glB, own_dj h.fig hg (hd h.e3), h.e1, h.e2, h.e3, h.e4, h.f1, h.f2, h.f3⟩
/-- A figure more. -/
theorem PageM.pushFig (h : PageM B w AO cO acc AW cW wait gl bx AF cF figs) {AF' : Option Addr} {cF' : Nat} {figs' : List Int} (hn : OwnI w' B AF' cF' figs') (hg : w.grownBy w' (blkOf AF)) {m : Nat} (hm : ∀ b, b < m → blkOf AF ≠ some b → blkOf AF' ≠ some b) (hlow : ∀ b, (blkOf AO = some b ∨ blkOf AW = some b ∨ gl = b ∨ ∃ l ∈ acc, blkOf l.A = some b) → b < m) : PageM B w' AO cO acc AW cW wait gl bx AF' cF' figs' := by
  refine ⟨⟨h.o.out.dj hg h.f1.symm (fun l hl => (h.f3 l hl).symm), q_dj h.o.q hg h.f2.symm, h.o.d1, h.o.d2⟩, h.box.grown hg (fun e => h.e3 e.symm), h.glB, hn, h.e1, h.e2, ?_, h.e4, ?_, ?_, ?_⟩
  · exact hm gl (hlow gl (.inr (.inr (.inl rfl)))) h.e3
  · intro b hb; exact hm b (hlow b (.inl hb)) (h.f1 b hb)
  · intro b hb; exact hm b (hlow b (.inr (.inl hb))) (h.f2 b hb)
  · intro l hl b hb; exact hm b (hlow b (.inr (.inr (.inr ⟨l, hl, hb⟩)))) (h.f3 l hl b hb)
theorem PageM.low (h : PageM B w AO cO acc AW cW wait gl bx AF cF figs) : ∀ b, (blkOf AO = some b ∨ blkOf AW = some b ∨ gl = b ∨ ∃ l ∈ acc, blkOf l.A = some b) → b < w.heap.size := by
  rintro b (e | e | rfl | ⟨l, hl, e⟩)
  · exact (blk_lt h.o.out.row e).2
  · exact (q_lt h.o.q e).2
  · exact h.box.lt
  · exact (blk_lt (h.o.out.figs l hl) e).2
/-- A figure more that waits. -/
theorem PageM.pushQ (h : PageM B w AO cO acc AW cW wait gl bx AF cF figs) {AW' : Option Addr} {cW' : Nat} {wait' : List Int} (hn : OwnQ w' B AW' cW' wait') (hg : w.grownBy w' (blkOf AW)) {m : Nat} (hm : ∀ b, b < m → blkOf AW ≠ some b → blkOf AW' ≠ some b) (hlow : ∀ b, (blkOf AO = some b ∨ blkOf AF = some b ∨ gl = b ∨ ∃ l ∈ acc, blkOf l.A = some b) → b < m) : PageM B w' AO cO acc AW' cW' wait' gl bx AF cF figs := by
  refine ⟨⟨h.o.out.dj hg h.o.d1.symm (fun l hl => (h.o.d2 l hl).symm), hn, ?_, ?_⟩, h.box.grown hg (fun e => h.e2 e.symm), h.glB, own_dj h.fig hg h.f2, h.e1, ?_, h.e3, h.e4, h.f1, ?_, h.f3⟩
  · intro b hb; exact hm b (hlow b (.inl hb)) (h.o.d1 b hb)
  · intro l hl b hb; exact hm b (hlow b (.inr (.inr (.inr ⟨l, hl, hb⟩)))) (h.o.d2 l hl b hb)
  · exact hm gl (hlow gl (.inr (.inr (.inl rfl)))) h.e2
  · intro b hb hb2
    exact hm b (hlow b (.inr (.inl hb2))) (fun e => h.f2 b e hb2) hb
theorem PageM.lowQ (h : PageM B w AO cO acc AW cW wait gl bx AF cF figs) : ∀ b, (blkOf AO = some b ∨ blkOf AF = some b ∨ gl = b ∨ ∃ l ∈ acc, blkOf l.A = some b) → b < w.heap.size := by
  rintro b (e | e | rfl | ⟨l, hl, e⟩)
  · exact (blk_lt h.o.out.row e).2
  · exact (blk_lt h.fig e).2
  · exact h.box.lt
  · exact (blk_lt (h.o.out.figs l hl) e).2
/-- The first figure that waits taken away. -/
theorem PageM.tail {x : Int} (h : PageM B w AO cO acc AW cW (x :: wait) gl bx AF cF figs) : ∃ b off A1, AW = some ⟨b, off, none⟩ ∧ w.cell? ⟨b, off, none⟩ = some (.int .i64 x) ∧ PageM B w AO cO acc A1 (cW - 1) wait gl bx AF cF figs ∧
    ∀ wx : World, (Instr.slice 24 (.slice (some ⟨b, off, none⟩) (wait.length + 1) cW) (some (.int .i64 1)) none none).run Try.prog wx = .ok (.slice A1 wait.length (cW - 1)) wx := by
  obtain ⟨b, off, A1, rfl, hc, hq, hA1, hsl⟩ := h.o.q.tail
  have e : blkOf A1 = blkOf (some ⟨b, off, none⟩) := hA1
  refine ⟨b, off, A1, rfl, hc, ⟨⟨h.o.out, hq, by rw [e]; exact h.o.d1, by rw [e]; exact h.o.d2⟩, h.box, h.glB, h.fig, h.e1, by rw [e]; exact h.e2, h.e3, h.e4, h.f1, by rw [e]; exact h.f2, h.f3⟩, hsl⟩
theorem PageM.drew (h : PageM B w AO cO acc AW cW wait gl bx AF cF figs) : PageM B w.drew AO cO acc AW cW wait gl bx AF cF figs := h.next (Below.refl _ _).drew
/-- The page done. -/
theorem PageM.close (h : PageM B w AO cO acc AW cW wait gl bx AF cF figs) {AO' : Option Addr} {cO' : Nat} {l : LfV} (hA : l.A = AF) (hc : l.c = cF) (hf : l.figs = figs)
    (hn : w'.ownsRow B 26 4 (.slice AO' (acc ++ [l]).length cO') (acc ++ [l]).length ((acc ++ [l]).flatMap LfV.cells)) (hg : w.grownBy w' (blkOf AO)) {m : Nat} (hm : ∀ b, b < m → blkOf AO ≠ some b → blkOf AO' ≠ some b)
    (hlow : ∀ b, (blkOf AW = some b ∨ blkOf AF = some b ∨ ∃ l ∈ acc, blkOf l.A = some b) → b < m) : OutM B w' AO' cO' (acc ++ [l]) AW cW wait := by
  have hap : ∀ l' ∈ acc, ∀ b, blkOf l'.A = some b → blkOf AO ≠ some b := fun l' hl' b hb hb2 => by
    obtain ⟨a, ha, rfl⟩ : ∃ a, l'.A = some a ∧ a.block = b := by
      cases hA : l'.A with
      | none => rw [hA] at hb; cases hb
      | some a => rw [hA] at hb; exact ⟨a, rfl, by simpa [blkOf] using hb⟩
    obtain ⟨a2, ha2, e⟩ : ∃ a2, AO = some a2 ∧ a2.block = a.block := by
      cases hA : AO with
      | none => rw [hA] at hb2; cases hb2
      | some a2 => rw [hA] at hb2; exact ⟨a2, rfl, by simpa [blkOf] using hb2⟩
    exact h.o.out.apart l' hl' a a2 ha ha2 e.symm
  have hdj : ∀ l' ∈ acc, Dj (blkOf AO) (blkOf l'.A) := fun l' hl' b hb hb2 => hap l' hl' b hb2 hb
  have hto : ∀ {X : Option Addr} {a : Addr}, X = some a → blkOf X = some a.block := fun e => by rw [e]; rfl
  refine ⟨⟨hn, ?_, ?_, ?_⟩, q_dj h.o.q hg h.o.d1, ?_, ?_⟩
  · intro l' hl'
    rw [List.mem_append, List.mem_singleton] at hl'
    rcases hl' with hl' | rfl
    · exact own_dj (h.o.out.figs l' hl') hg (hdj l' hl')
    · rw [hA, hc, hf]; exact own_dj h.fig hg h.f1
  · intro l' hl' a b ha hb e
    rw [List.mem_append, List.mem_singleton] at hl'
    rcases hl' with hl' | rfl
    · exact hm a.block (hlow _ (.inr (.inr ⟨l', hl', hto ha⟩))) (hap l' hl' _ (hto ha)) (by rw [e]; exact hto hb)
    · rw [hA] at ha
      exact hm a.block (hlow _ (.inr (.inl (hto ha)))) (fun e2 => h.f1 _ e2 (hto ha)) (by rw [e]; exact hto hb)
  · rw [List.pairwise_append]
    refine ⟨h.o.out.dist, List.pairwise_singleton _ _, fun l' hl' l2 hl2 a b ha hb e => ?_⟩
    rw [List.mem_singleton] at hl2
    subst hl2
    rw [hA] at hb
    exact h.f3 l' hl' a.block (hto ha) (by rw [e]; exact hto hb)
  · intro b hb hb2
    exact hm b (hlow b (.inl hb2)) (fun e => h.o.d1 b e hb2) hb
  · intro l' hl' b hb
    rw [List.mem_append, List.mem_singleton] at hl'
    rcases hl' with hl' | rfl
    · exact h.o.d2 l' hl' b hb
    · rw [hA] at hb; exact fun hb2 => h.f2 b hb2 hb
theorem PageM.lowO (h : PageM B w AO cO acc AW cW wait gl bx AF cF figs) : ∀ b, (blkOf AW = some b ∨ blkOf AF = some b ∨ ∃ l ∈ acc, blkOf l.A = some b) → b < w.heap.size := by
  rintro b (e | e | ⟨l, hl, e⟩)
  · exact (q_lt h.o.q e).2
  · exact (blk_lt h.fig e).2
  · exact (blk_lt (h.o.out.figs l hl) e).2
end
theorem leaf_one (l : LfV) : ∀ u ∈ [Value.int .i64 l.from_, .int .i64 l.to_, .int .i64 l.notes, .slice l.A l.figs.length l.c], u.oneCell' = true := by
  intro u hu; simp at hu; rcases hu with rfl | rfl | rfl | rfl <;> rfl
/-- An append of one page, and where the new slice lies. -/
theorem wpList_push_La {ops : Array Oper} {rest : List Oper} {o : Oper} {a : Act} {Q : Exit → Act → World → Prop} {B : Nat} {w : World} {s x : Operand} {A : Option Addr} {c : Nat} {acc : List LfV} (l : LfV) (hw : o.guard = none)
    (ho : o.op = .call { callee := .builtin .append, args := #[s, x], argTypes := #[44, 44] }) (hown : w.ownsRow B 26 4 (.slice A acc.length c) acc.length (acc.flatMap LfV.cells)) (hs : a.eval s = .slice A acc.length c) (hx : a.eval x = .slice (some ⟨w.heap.size, 0, none⟩) 1 1) (hlen : acc.length ≤ 1000000000) (hB : B ≤ w.heap.size)
    (h : ∀ A' c' w', w'.ownsRow B 26 4 (.slice A' (acc ++ [l]).length c') (acc ++ [l]).length ((acc ++ [l]).flatMap LfV.cells) → (w.alloc (.cells #[.int .i64 l.from_, .int .i64 l.to_, .int .i64 l.notes, .slice l.A l.figs.length l.c] 26)).grownBy w' (blkOf A) →
      (∀ g, g < w.heap.size → blkOf A ≠ some g → blkOf A' ≠ some g) → wpList Try.prog ops Q rest (a.put o.dst (.slice A' (acc.length + 1) c')) w') :
    wpList Try.prog ops Q (o :: rest) a (w.alloc (.cells #[.int .i64 l.from_, .int .i64 l.to_, .int .i64 l.notes, .slice l.A l.figs.length l.c] 26)) := by
  obtain ⟨i0, hi, hz0, hz1, hz2⟩ := info_parts infoLeaf
  refine wpList_append_own_at _ hw s x 44 ho B 26 i0 _ 4 48 Try.underlying44 hi hz0 hz1 hz2 rfl (by decide) _ _ _ hs (hown.alloc _) ⟨w.heap.size, 0, none⟩ 1 1 [.int .i64 l.from_, .int .i64 l.to_, .int .i64 l.notes, .slice l.A l.figs.length l.c] hx rfl (cells4_new _ _ _ _ _ _) (leaf_one l) (by unfold maxLen; omega) (by omega) (by simp; omega) ?_
  intro v3 w3 hown3 hg3 _ hat
  have hown4 : w3.ownsRow B 26 4 v3 (acc ++ [l]).length ((acc ++ [l]).flatMap LfV.cells) := by
    rw [List.flatMap_append, List.length_append]; simpa [LfV.cells] using hown3
  obtain ⟨A4, c4, rfl, _, _, _, _, hown5⟩ := own_form hown4
  rw [ownBlock_blk] at hg3 hat
  have := h A4 c4 w3 hown5 hg3 (fun g hg hne => by
    rw [ownBlock_blk] at hat
    rcases hat with e | e
    · rw [e]; exact hne
    · rw [e]; simp only [size_alloc']; intro e2; injection e2 with e2; omega)
  simpa using this
end Go.Proofs.Ytfflnkkhemaanaa
