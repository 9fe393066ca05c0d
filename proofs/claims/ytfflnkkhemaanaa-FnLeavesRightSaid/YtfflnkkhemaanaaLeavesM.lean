/- Pages of the call's own, with their figures; marks on them. No condition. -/
import Derived.Test.YtfflnkkhemaanaaLeavesX
namespace Go.Proofs.Ytfflnkkhemaanaa
open Go.RowKit
set_option linter.unusedVariables false

/-- A slice of pages that the call itself made, each with figures of its own, no two of them in one block. -/
structure OwnL (w : World) (B : Nat) (A : Option Addr) (c : Nat) (ls : List LfV) : Prop where
  row : w.ownsRow B 26 4 (.slice A ls.length c) ls.length (ls.flatMap LfV.cells)
  figs : ∀ l ∈ ls, OwnI w B l.A l.c l.figs
  apart : ∀ l ∈ ls, ∀ a b, l.A = some a → A = some b → a.block ≠ b.block
  dist : ls.Pairwise fun l l' => ∀ a b, l.A = some a → l'.A = some b → a.block ≠ b.block
section
variable {w w' : World} {A : Option Addr} {B c : Nat} {ls : List LfV}
theorem OwnL.nil_ (w : World) (B : Nat) : OwnL w B none 0 [] := ⟨World.ownsRow_nil w B _ 4, by simp, by simp, List.Pairwise.nil⟩
theorem OwnL.at_ (h : OwnL w B A c ls) : LeavesAt w A ls.length c ls := ⟨Sl.of_own h.row, fun l hl => (h.figs l hl).at_⟩
theorem OwnL.kept {row : Option Nat} (h : OwnL w B A c ls) (hg : w.grownBy w' row) (hr : ∀ k, row = some k → k < B) : OwnL w' B A c ls := by
  have hk : ∀ {e sz n : Nat} {v : Value} {xs : List Value}, w.ownsRow B e sz v n xs → w'.ownsRow B e sz v n xs := fun {e sz n v xs} ho => ho.kept hg (by
    cases hv : v.ownBlock with
    | none => exact .inl rfl
    | some k => exact .inr (fun e => by have := hr k e.symm; have := (ho.lt k hv).1; omega))
  exact ⟨hk h.row, fun l hl => hk (h.figs l hl), h.apart, h.dist⟩
theorem OwnL.next (h : OwnL w B A c ls) (hb : Below w.heap.size w w') : OwnL w' B A c ls := h.kept (row := none) (gof hb) (by simp)
/-- A page's three numbers stored. -/
theorem OwnL.put3 {p s : List LfV} {l : LfV} {g : Nat} (h : OwnL w B (some ⟨g, 0, none⟩) c (p ++ l :: s)) (x y z : Int) :
    OwnL (((w.setCell ⟨g, p.length * 4, none⟩ (.int .i64 x)).setCell ⟨g, p.length * 4 + 1, none⟩ (.int .i64 y)).setCell ⟨g, p.length * 4 + 2, none⟩ (.int .i64 z)) B (some ⟨g, 0, none⟩) c (p ++ { l with from_ := x, to_ := y, notes := z } :: s) := by
  have hst := ((h.row.stored (p.length * 4) (.int .i64 x)).1.stored (p.length * 4 + 1) (.int .i64 y)).1.stored (p.length * 4 + 2) (.int .i64 z)
  have hbl := World.ownsRow.lt h.row g rfl
  have e : ((((p ++ l :: s).flatMap LfV.cells).set (p.length * 4) (.int .i64 x)).set (p.length * 4 + 1) (.int .i64 y)).set (p.length * 4 + 2) (.int .i64 z) = (p ++ { l with from_ := x, to_ := y, notes := z } :: s).flatMap LfV.cells := by
    have hp := flatMap_len LfV.cells_len p
    rw [List.flatMap_append, List.flatMap_append, List.flatMap_cons, List.flatMap_cons]
    rw [← hp]
    rw [List.set_append_right _ _ (Nat.le_refl _), List.set_append_right _ _ (by omega), List.set_append_right _ _ (by omega)]
    rw [Nat.sub_self, Nat.add_sub_cancel_left, Nat.add_sub_cancel_left]
    rfl
  have hl : (p ++ l :: s).length = (p ++ { l with from_ := x, to_ := y, notes := z } :: s).length := by simp
  have hfar : ∀ l' ∈ p ++ l :: s, OwnI (((w.setCell ⟨g, p.length * 4, none⟩ (.int .i64 x)).setCell ⟨g, p.length * 4 + 1, none⟩ (.int .i64 y)).setCell ⟨g, p.length * 4 + 2, none⟩ (.int .i64 z)) B l'.A l'.c l'.figs := fun l' hl' => by
    have hone : ∀ (w : World) (j : Nat) (u : Value), OwnI w B l'.A l'.c l'.figs → OwnI (w.setCell ⟨g, j, none⟩ u) B l'.A l'.c l'.figs := fun w j u ho =>
      World.ownsRow.kept ho (gset (grefl w (some g)) (.inl rfl) u) (by
        cases hA : l'.A with
        | none => exact .inl rfl
        | some a => exact .inr (fun e => h.apart l' hl' a _ hA rfl (by simpa [Value.ownBlock, hA] using e)))
    exact hone _ _ _ (hone _ _ _ (hone _ _ _ (h.figs l' hl')))
  refine ⟨?_, ?_, ?_, ?_⟩
  · have h1 := hst.1
    rw [e] at h1
    rw [← hl]; exact h1
  · intro l' hl'
    simp only [List.mem_append, List.mem_cons] at hl'
    rcases hl' with hl' | rfl | hl'
    · exact hfar l' (by simp [hl'])
    · exact hfar l (by simp)
    · exact hfar l' (by simp [hl'])
  · intro l' hl'
    simp only [List.mem_append, List.mem_cons] at hl'
    rcases hl' with hl' | rfl | hl'
    · exact h.apart l' (by simp [hl'])
    · exact h.apart l (by simp)
    · exact h.apart l' (by simp [hl'])
  · have hd := h.dist
    rw [List.pairwise_append, List.pairwise_cons] at hd ⊢
    refine ⟨hd.1, ⟨fun b hb => hd.2.1.1 b hb, hd.2.1.2⟩, fun a ha b hb => ?_⟩
    rw [List.mem_cons] at hb
    rcases hb with rfl | hb
    · exact hd.2.2 a ha l (by simp)
    · exact hd.2.2 a ha b (by simp [hb])
/-- A page's figures turned. -/
theorem OwnL.putF {p s : List LfV} {l : LfV} (h : OwnL w B A c (p ++ l :: s)) {fs : List Int} (hfs : fs.length = l.figs.length) (ho : OwnI w' B l.A l.c fs) (hg : w.grownBy w' (Value.slice l.A l.figs.length l.c).ownBlock) :
    OwnL w' B A c (p ++ { l with figs := fs } :: s) := by
  have hmem : l ∈ p ++ l :: s := by simp
  have hd := h.dist
  rw [List.pairwise_append, List.pairwise_cons] at hd
  have hkeep : ∀ l' ∈ p ++ l :: s, (∀ a b, l'.A = some a → l.A = some b → a.block ≠ b.block) → OwnI w' B l'.A l'.c l'.figs := fun l' hl' hne =>
    World.ownsRow.kept (h.figs l' hl') hg (by
      cases hA : l'.A with
      | none => exact .inl rfl
      | some a =>
        cases hA2 : l.A with
        | none => exact .inr (by simp [Value.ownBlock])
        | some b => exact .inr (fun e => hne a b hA hA2 (by simpa [Value.ownBlock] using e)))
  have e : (p ++ { l with figs := fs } :: s).flatMap LfV.cells = (p ++ l :: s).flatMap LfV.cells := by
    rw [List.flatMap_append, List.flatMap_append, List.flatMap_cons, List.flatMap_cons]
    simp [LfV.cells, hfs]
  have hl : (p ++ l :: s).length = (p ++ { l with figs := fs } :: s).length := by simp
  refine ⟨?_, ?_, ?_, ?_⟩
  · rw [e, ← hl]
    refine World.ownsRow.kept h.row hg ?_
    cases hA : A with
    | none => exact .inl rfl
    | some a =>
      cases hA2 : l.A with
      | none => exact .inr (by simp [Value.ownBlock])
      | some b => exact .inr (fun e => h.apart l hmem b a hA2 hA (by simpa [Value.ownBlock] using e.symm))
  · intro l' hl'
    simp only [List.mem_append, List.mem_cons] at hl'
    rcases hl' with hl' | rfl | hl'
    · exact hkeep l' (by simp [hl']) (hd.2.2 l' hl' l (by simp))
    · exact ho
    · exact hkeep l' (by simp [hl']) (fun a b ha hb e => hd.2.1.1 l' hl' b a hb ha e.symm)
  · intro l' hl'
    simp only [List.mem_append, List.mem_cons] at hl'
    rcases hl' with hl' | rfl | hl'
    · exact h.apart l' (by simp [hl'])
    · exact h.apart l (by simp)
    · exact h.apart l' (by simp [hl'])
  · rw [List.pairwise_append, List.pairwise_cons]
    refine ⟨hd.1, ⟨fun b hb => hd.2.1.1 b hb, hd.2.1.2⟩, fun a ha b hb => ?_⟩
    rw [List.mem_cons] at hb
    rcases hb with rfl | hb
    · exact hd.2.2 a ha l (by simp)
    · exact hd.2.2 a ha b (by simp [hb])
end
/-- The pages that a mark leaves. -/
def markL (q : Int) : List LfV → List LfV
  | [] => []
  | l :: t => { l with from_ := q, to_ := q + 1, notes := q + 2, figs := marks (q + 3) l.figs.length } :: markL (q + 3 + l.figs.length) t
def markEnd (q : Int) : List LfV → Int
  | [] => q
  | l :: t => markEnd (q + 3 + l.figs.length) t
theorem markL_snoc : ∀ (p : List LfV) (l : LfV) (q : Int), markL q (p ++ [l]) = markL q p ++ [{ l with from_ := markEnd q p, to_ := markEnd q p + 1, notes := markEnd q p + 2, figs := marks (markEnd q p + 3) l.figs.length }] ∧ markEnd q (p ++ [l]) = markEnd q p + 3 + l.figs.length
  | [], l, q => ⟨rfl, rfl⟩
  | m :: p, l, q => by
    obtain ⟨h1, h2⟩ := markL_snoc p l (q + 3 + m.figs.length)
    constructor
    · show markL q (m :: (p ++ [l])) = _
      rw [markL, markL, h1]; rfl
    · show markEnd q (m :: (p ++ [l])) = _
      rw [markEnd, markEnd, h2]
theorem markL_len : ∀ (ls : List LfV) (q : Int), (markL q ls).length = ls.length
  | [], _ => rfl
  | l :: t, q => by rw [markL, List.length_cons, List.length_cons, markL_len t]
theorem markEnd_ge : ∀ (ls : List LfV) (q : Int), q ≤ markEnd q ls
  | [], q => Int.le_refl _
  | l :: t, q => by rw [markEnd]; have := markEnd_ge t (q + 3 + l.figs.length); omega
theorem markEnd_le : ∀ (ls : List LfV) (q : Int) (m : Nat), (∀ l ∈ ls, l.figs.length ≤ m) → markEnd q ls ≤ q + ls.length * (3 + m)
  | [], q, m, _ => by simp [markEnd]
  | l :: t, q, m, h => by
    rw [markEnd]
    have h1 := markEnd_le t (q + 3 + l.figs.length) m (fun x hx => h x (by simp [hx]))
    have h2 := h l (by simp)
    have e : ((l :: t).length : Int) * (3 + m) = (t.length : Int) * (3 + m) + (3 + m) := by
      rw [List.length_cons]; push_cast; rw [Int.add_mul]; omega
    omega

set_option maxHeartbeats 800000 in
theorem c_markLeafS (A : Option Addr) (c B : Nat) (ls : List LfV) (w : World) (h : OwnL w B A c ls) (hn : ls.length ≤ 1000000) (hf : ∀ l ∈ ls, l.figs.length ≤ 1000) :
    Calls Try.prog 33 #[.slice A ls.length c, .int .i64 1] w fun e w' => e = .returned (.int .i64 (markEnd 1 ls)) ∧ OwnL w' B A c (markL 1 ls) ∧ Below B w w' := by
  obtain ⟨n, hn'⟩ : ∃ n, ls.length = n := ⟨_, rfl⟩
  have HN := hide hn'
  have HF := hide hf
  rw [hn'] at hn ⊢
  have hA : n = 0 ∨ ∃ g, A = some ⟨g, 0, none⟩ := by
    rcases h.row.2 with ⟨_, h0⟩ | ⟨g, _, _, hv, _⟩
    · exact .inl (by omega)
    · injection hv with hA; exact .inr ⟨g, hA⟩
  rcases hA with rfl | ⟨g, rfl⟩
  · obtain rfl : ls = [] := List.eq_nil_of_length_eq_zero hn'
    clear hn' hf
    go_enter Try.func33, Try.ntmps33
    go_wp2
    refine wp_loop_rounds 1 ?_
    rw [rounds_succ]
    go_wp2
    go_ret
    exact ⟨rfl, h, Below.refl _ _⟩
  · have hbd := h.at_.bd
    rw [hn'] at hbd
    have hme := markEnd_le ls 1 1000 hf
    have HE := hide hme
    clear hn' hf hme
    go_enter Try.func33, Try.ntmps33
    go_wp2
    go_loopw [1, 5] (fun q i wr => ∃ (k : Nat) (x : Int) (p s : List LfV), k ≤ n ∧ i = .int .i64 k ∧ q = .int .i64 x ∧ Hid (x = markEnd 1 p) ∧ Hid (ls = p ++ s) ∧ Hid (p.length = k) ∧ 0 ≤ x ∧ x ≤ 1100000000 ∧ OwnL wr B (some ⟨g, 0, none⟩) c (markL 1 p ++ s) ∧ Below B w wr) (fun _ i _ => n - (intOf i).toNat)
    case atStart => exact ⟨0, 1, [], ls, Nat.zero_le _, rfl, rfl, rfl, rfl, rfl, by omega, by omega, h, Below.refl _ _⟩
    case round =>
      clear h
      obtain ⟨k, x, p, s, hk, rfl, rfl, hx, hls, hpl, hx0, hx1, hown, hb⟩ := hrel
      by_cases hlt : k < n
      · obtain ⟨l, s', rfl⟩ : ∃ l s', s = l :: s' := by
          cases s with
          | nil => have h1 := unhide HN; rw [unhide hls, List.append_nil, unhide hpl] at h1; omega
          | cons l s' => exact ⟨l, s', rfl⟩
        have hml : (markL 1 p).length = k := by rw [markL_len, unhide hpl]
        obtain ⟨hm1, hm2⟩ := markL_snoc p l 1
        have hx2 : x + 3 + l.figs.length = markEnd 1 (p ++ [l]) := by rw [hm2, unhide hx]
        have hls2 : ls = p ++ [l] ++ s' := by rw [unhide hls]; simp
        have hfl : l.figs.length ≤ 1000 := unhide HF l (by rw [unhide hls]; simp)
        have hle : markEnd 1 (p ++ [l]) ≤ 1100000000 := by
          have h1 := markEnd_le (p ++ [l]) 1 1000 (fun y hy => unhide HF y (by rw [hls2]; simp at hy ⊢; rcases hy with hy | hy; exact .inl hy; exact .inr (.inl hy)))
          have h2 : (p ++ [l]).length = k + 1 := by simp [unhide hpl]
          rw [h2] at h1
          omega
        have hpl2 : (p ++ [l]).length = k + 1 := by simp [unhide hpl]
        obtain ⟨b, off, l', e0, hbl, hr, hfa, h0, h1, h2, h3⟩ := hown.at_.at_ (k := k) (by simp [hml])
        obtain ⟨rfl, rfl⟩ : g = b ∧ 0 = off := by simpa using e0
        rw [List.getElem?_append_right (by omega), hml, Nat.sub_self] at hr
        simp only [List.getElem?_cons_zero, Option.some.injEq] at hr
        subst hr
        simp only [Nat.zero_add] at h0 h1 h2 h3
        have f0 := hown.row.frozenAt (k * 4)
        have f1 := hown.row.frozenAt (k * 4 + 1)
        have f2 := hown.row.frozenAt (k * 4 + 2)
        have hBg := (World.ownsRow.lt hown.row g rfl).1
        have hBs : B ≤ wr.heap.size := by have := (World.ownsRow.lt hown.row g rfl).2; omega
        have hp3 := hown.put3 x (x + 1) (x + 1 + 1)
        rw [hml] at hp3
        have hb3 := ((hb.setCell (p := ⟨g, k * 4, none⟩) hBg (.int .i64 x)).setCell (p := ⟨g, k * 4 + 1, none⟩) hBg (.int .i64 (x + 1))).setCell (p := ⟨g, k * 4 + 2, none⟩) hBg (.int .i64 (x + 1 + 1))
        have H1 := hide hx2
        have H2 := hide hls2
        have H3 := hide hpl2
        have H4 := hide hm1
        have hle2 : x + 3 + l.figs.length ≤ 1100000000 := by omega
        clear hx2 hls2 hpl2 hm1 hm2 hml hown hb e0 hle hfa
        go_wp2_with fail
        have hO := hp3.figs _ (List.mem_append_right _ (List.mem_cons_self ..))
        refine (c_markIntS l.A l.c B l.figs (x + 1 + 1 + 1) _ hO (by omega) (by omega) (by omega)).mono ?_
        rintro e w2 ⟨rfl, O, hg⟩
        have hpF := hp3.putF (marks_len (x + 1 + 1 + 1) l.figs.length) O hg
        have hb4 : Below B w w2 := hb3.grown hg (by simpa [World.setCell] using hBs) (fun j hj => by
          have := (World.ownsRow.lt hO j hj).1; exact this)
        clear hp3 hO O hg hb3 h0 h1 h2 h3 f0 f1 f2
        have hfin : markL 1 p ++ { l with from_ := x, to_ := x + 1, notes := x + 1 + 1, figs := marks (x + 1 + 1 + 1) l.figs.length } :: s' = markL 1 (p ++ [l]) ++ s' := by
          rw [unhide H4, ← unhide hx, show x + 1 + 1 + 1 = x + 3 by omega, show x + 1 + 1 = x + 2 by omega]; simp
        have hpF2 : OwnL w2 B (some ⟨g, 0, none⟩) c (markL 1 (p ++ [l]) ++ s') := by rw [← hfin]; exact hpF
        clear hfin hpF
        go_wp2
        go_roundw
        case rel => exact ⟨k + 1, x + 3 + l.figs.length, p ++ [l], s', by omega, by go_num, by go_num, H1, H2, H3, by omega, by omega, hpF2, hb4⟩
        case measure => simp [intOf]; omega
      · obtain rfl : n = k := by omega
        obtain rfl : s = [] := by
          have h1 := congrArg List.length (unhide hls)
          rw [unhide HN, List.length_append, unhide hpl] at h1
          exact List.eq_nil_of_length_eq_zero (by omega)
        have e : ls = p := by rw [unhide hls, List.append_nil]
        have hfin : x = markEnd 1 ls := by rw [e, unhide hx]
        have hown2 : OwnL wr B (some ⟨g, 0, none⟩) c (markL 1 ls) := by rw [e]; simpa using hown
        have H := hide hfin
        clear hfin e hown
        go_wp2
        go_ret
        exact ⟨by rw [← unhide H]; rfl, hown2, hb⟩

set_option maxHeartbeats 800000 in
theorem c_heldLeafS (A : Option Addr) (n c : Nat) (ls : List LfV) (w : World) (h : LeavesAt w A n c (markL 1 ls)) (hn : n ≤ 1000000) (hf : ∀ l ∈ ls, l.figs.length ≤ 1000) :
    Calls Try.prog 34 #[.slice A n c, .int .i64 1] w fun e w' => e = .returned (.int .i64 (markEnd 1 ls)) ∧ Below w.heap.size w w' := by
  have hbd := h.bd
  have hlen : ls.length = n := by have := h.len; rwa [markL_len] at this
  have HN := hide hlen
  have HF := hide hf
  clear hlen hf
  go_enter Try.func34, Try.ntmps34
  go_wp2
  go_loopw [1, 5] (fun q i wr => ∃ (k : Nat) (x : Int) (p s : List LfV), k ≤ n ∧ i = .int .i64 k ∧ q = .int .i64 x ∧ Hid (x = markEnd 1 p) ∧ Hid (ls = p ++ s) ∧ Hid (p.length = k) ∧ 0 ≤ x ∧ x ≤ 1100000000 ∧ Below w.heap.size w wr) (fun _ i _ => n - (intOf i).toNat)
  case atStart => exact ⟨0, 1, [], ls, Nat.zero_le _, rfl, rfl, rfl, rfl, rfl, by omega, by omega, Below.refl _ _⟩
  case round =>
    obtain ⟨k, x, p, s, hk, rfl, rfl, hx, hls, hpl, hx0, hx1, hb⟩ := hrel
    by_cases hlt : k < n
    · obtain ⟨l, s', rfl⟩ : ∃ l s', s = l :: s' := by
        cases s with
        | nil => have h1 := unhide HN; rw [unhide hls, List.append_nil, unhide hpl] at h1; omega
        | cons l s' => exact ⟨l, s', rfl⟩
      have hml : (markL 1 p).length = k := by rw [markL_len, unhide hpl]
      obtain ⟨hm1, hm2⟩ := markL_snoc p l 1
      have hx2 : x + 3 + l.figs.length = markEnd 1 (p ++ [l]) := by rw [hm2, unhide hx]
      have hls2 : ls = p ++ [l] ++ s' := by rw [unhide hls]; simp
      have hfl : l.figs.length ≤ 1000 := unhide HF l (by rw [unhide hls]; simp)
      have hpl2 : (p ++ [l]).length = k + 1 := by simp [unhide hpl]
      have hle : markEnd 1 (p ++ [l]) ≤ 1100000000 := by
        have h1 := markEnd_le (p ++ [l]) 1 1000 (fun y hy => unhide HF y (by rw [hls2]; simp at hy ⊢; rcases hy with hy | hy; exact .inl hy; exact .inr (.inl hy)))
        rw [hpl2] at h1
        omega
      obtain ⟨b, off, l', rfl, hbl, hr, hfa, h0, h1, h2, h3⟩ := (h.next hb).at_ hlt
      have hr2 : (markL 1 ls)[k]? = some { l with from_ := x, to_ := x + 1, notes := x + 2, figs := marks (x + 3) l.figs.length } := by
        have hgen : ∀ (u v : List LfV) (q : Int), markL q (u ++ v) = markL q u ++ markL (markEnd q u) v := by
          intro u
          induction u with
          | nil => intro v q; rfl
          | cons m u ih => intro v q; show markL q (m :: (u ++ v)) = _; rw [markL, ih, markL, markEnd]; rfl
        rw [hls2, hgen, hm1, List.append_assoc, List.getElem?_append_right (by omega), hml, Nat.sub_self, ← unhide hx]; rfl
      rw [hr2] at hr
      have hr := Option.some.inj hr
      subst hr
      dsimp only at h0 h1 h2 h3
      rw [marks_len] at h3
      have hfb : IntsAt wr l.A l.figs.length l.c (marks (x + 3) l.figs.length) := by have := hfa; unfold LfAt at this; dsimp only at this; rwa [marks_len] at this
      have n0 : (x != x) = false := by simp
      have h1' : wr.cell? ⟨b, off + k * 4 + 1, none⟩ = some (.int .i64 (x + 1)) := h1
      have h2' : wr.cell? ⟨b, off + k * 4 + 2, none⟩ = some (.int .i64 (x + 1 + 1)) := by rw [h2]; simp; omega
      have n1 : (x + 1 != x + 1) = false := by simp
      have n2 : (x + 1 + 1 != x + 1 + 1) = false := by simp
      have H1 := hide hx2
      have H2 := hide hls2
      have H3 := hide hpl2
      have hle2 : x + 3 + l.figs.length ≤ 1100000000 := by omega
      clear hx2 hls2 hpl2 hm1 hm2 hml hle hfa hr2 h1 h2
      go_wp2_with fail
      refine (c_heldIntS l.A l.c l.figs.length (x + 1 + 1 + 1) _ (by rw [show x + 1 + 1 + 1 = x + 3 by omega]; exact hfb) (by omega) (by omega) (by omega)).mono ?_
      rintro e w2 ⟨rfl, hb2⟩
      clear h0 h1' h2' h3 n0 n1 n2
      go_wp2
      go_roundw
      case rel => exact ⟨k + 1, x + 3 + l.figs.length, p ++ [l], s', by omega, by go_num, by go_num, H1, H2, H3, by omega, by omega, bnext hb hb2⟩
      case measure => simp [intOf]; omega
    · obtain rfl : n = k := by omega
      obtain rfl : s = [] := by
        have h1 := congrArg List.length (unhide hls)
        rw [unhide HN, List.length_append, unhide hpl] at h1
        exact List.eq_nil_of_length_eq_zero (by omega)
      have hfin : x = markEnd 1 ls := by rw [unhide hls, List.append_nil, unhide hx]
      have H := hide hfin
      clear hfin
      go_wp2
      go_ret
      exact ⟨by rw [← unhide H]; rfl, hb⟩
end Go.Proofs.Ytfflnkkhemaanaa
