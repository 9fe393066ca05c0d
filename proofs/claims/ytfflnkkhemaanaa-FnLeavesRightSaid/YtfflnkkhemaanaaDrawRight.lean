/- spec.DrawLeavesRight: what it draws. No condition. -/
import Derived.Test.YtfflnkkhemaanaaMake2
import Derived.Test.YtfflnkkhemaanaaMakeR
import Derived.Test.YtfflnkkhemaanaaDrawPages
import Derived.Test.YtfflnkkhemaanaaIntRow
import Derived.Test.YtfflnkkhemaanaaAppend
import Derived.Deep.RegionLaw
import Derived.OwnWalk
namespace Go.Proofs.Ytfflnkkhemaanaa
open Go.RowKit
set_option linter.unusedVariables false

/-- One cell of a page stored. -/
theorem OwnL.put1 {w : World} {B c : Nat} {p s : List LfV} {l l' : LfV} {g : Nat} (h : OwnL w B (some ⟨g, 0, none⟩) c (p ++ l :: s)) (j : Nat) (hj : j < 4) (v : Value) (hv : l'.cells = l.cells.set j v)
    (hf : LfAt (w.setCell ⟨g, p.length * 4 + j, none⟩ v) l') : LeavesAt (w.setCell ⟨g, p.length * 4 + j, none⟩ v) (some ⟨g, 0, none⟩) (p ++ l :: s).length c (p ++ l' :: s) := by
  have hst := h.row.stored (p.length * 4 + j) v
  have e : ((p ++ l :: s).flatMap LfV.cells).set (p.length * 4 + j) v = (p ++ l' :: s).flatMap LfV.cells := by
    have hp := flatMap_len LfV.cells_len p
    rw [List.flatMap_append, List.flatMap_append, List.flatMap_cons, List.flatMap_cons, hv]
    rw [← hp, List.set_append_right _ _ (by omega), Nat.add_sub_cancel_left, List.set_append_left _ _ (by rw [LfV.cells_len]; exact hj)]
  have hfar : ∀ l'' ∈ p ++ l :: s, LfAt (w.setCell ⟨g, p.length * 4 + j, none⟩ v) l'' := fun l'' hl'' =>
    OwnI.at_ (B := B) (World.ownsRow.kept (h.figs l'' hl'') (gset (grefl w (some g)) (.inl rfl) v) (by
      cases hA : l''.A with
      | none => exact .inl rfl
      | some a => exact .inr (fun e => h.apart l'' hl'' a _ hA rfl (by simpa [Value.ownBlock, hA] using e))))
  refine ⟨?_, ?_⟩
  · have h1 := Sl.of_own hst.1
    rw [e] at h1
    exact h1
  · intro l'' hl''
    simp only [List.mem_append, List.mem_cons] at hl''
    rcases hl'' with hl'' | rfl | hl''
    · exact hfar l'' (by simp [hl''])
    · exact hf
    · exact hfar l'' (by simp [hl''])
theorem OwnL.far1 {w : World} {B c : Nat} {ls : List LfV} {l : LfV} {g : Nat} (h : OwnL w B (some ⟨g, 0, none⟩) c ls) (hl : l ∈ ls) (j : Nat) (v : Value) : LfAt (w.setCell ⟨g, j, none⟩ v) l :=
  OwnI.at_ (B := B) (World.ownsRow.kept (h.figs l hl) (gset (grefl w (some g)) (.inl rfl) v) (by
    cases hA : l.A with
    | none => exact .inl rfl
    | some a => exact .inr (fun e => h.apart l hl a _ hA rfl (by simpa [Value.ownBlock, hA] using e))))
theorem split_at {α : Type} {ls : List α} {k : Nat} {l : α} (h : ls[k]? = some l) : ∃ p s, ls = p ++ l :: s ∧ p.length = k := by
  have hlt : k < ls.length := get_lt h
  refine ⟨ls.take k, ls.drop (k + 1), ?_, by rw [List.length_take]; omega⟩
  have : l = ls[k] := by rw [List.getElem?_eq_getElem hlt] at h; exact (Option.some.inj h).symm
  rw [this, ← List.drop_eq_getElem_cons, List.take_append_drop]
theorem LeavesAt.tail1 {w : World} {A : Option Addr} {n c : Nat} {ls : List LfV} (h : LeavesAt w A n c ls) (hn : 1 ≤ n) : LeavesAt w (A.map (·.add (1 * 4))) (n - 1) (c - 1) (ls.drop 1) := by
  have h1 := h.sl.1.cut hn (Nat.le_refl n)
  have hb := h.bd
  refine ⟨⟨?_, by omega⟩, fun l hl => h.figs l (List.mem_of_mem_drop hl)⟩
  rw [flatMap_drop LfV.cells_len]
  rw [List.take_of_length_le (by rw [List.length_drop, flatMap_len LfV.cells_len, h.len]; omega)] at h1
  exact h1

theorem leaves_tail {w : World} {A : Option Addr} {n c : Nat} {ls : List LfV} (h : LeavesAt w A n c ls) (hn : 1 ≤ n) :
    ∃ A1, LeavesAt w A1 (n - 1) (c - 1) (ls.drop 1) ∧ ∀ wx : World, (Instr.slice 44 (.slice A n c) (some (.int .i64 1)) none none).run Try.prog wx = .ok (.slice A1 (n - 1) (c - 1)) wx := by
  have hbd := h.bd
  have h1 := h.tail1 hn
  refine ⟨if c = 1 then A else A.map (fun x => x.add (1 * 4)), ⟨⟨h1.sl.1.congrA (fun h0 => by rw [if_neg (by omega)]), by omega⟩, h1.figs⟩, fun wx => ?_⟩
  have h3 : ¬ ((n : Int) < 1) := by omega
  simp [go_sem, h3]
theorem OwnL.cellj {w : World} {B c : Nat} {p s : List LfV} {l : LfV} {g : Nat} (h : OwnL w B (some ⟨g, 0, none⟩) c (p ++ l :: s)) (j : Nat) (hj : j < 4) (v : Value) (hv : l.cells[j]? = some v) : w.cell? ⟨g, p.length * 4 + j, none⟩ = some v := by
  have hx : (p ++ l :: s)[p.length]? = some l := by simp
  have h2 := flatMap_get LfV.cells_len _ p.length j _ hx hj
  have h1 := h.row.cellAt (p.length * 4 + j) (by simp; omega)
  rw [h1, h2, hv]
theorem ints_ones (xs : List Int) : ∀ u ∈ xs.map (Value.int .i64), u.oneCell' = true := by
  intro u hu
  obtain ⟨x, _, rfl⟩ := List.mem_map.1 hu
  rfl
theorem own_hi {w w' : World} {B e sz n m : Nat} {v : Value} {xs : List Value} {row : Option Nat} (h : w.ownsRow B e sz v n xs) (hg : w.grownBy w' row) (hv : ∀ k, v.ownBlock = some k → k < m) (hr : ∀ k, row = some k → m ≤ k) : w'.ownsRow B e sz v n xs :=
  h.kept hg (by
    cases hv' : v.ownBlock with
    | none => exact .inl rfl
    | some k => exact .inr (fun e => by have := hv k hv'; have := hr k e.symm; omega))

set_option maxRecDepth 100000 in
set_option maxHeartbeats 2000000 in
theorem c_drawLeavesRight (A : Option Addr) (n c : Nat) (xs : List Int) (w : World) (h : CodeAt w A n c xs) :
    Calls Try.prog 25 #[.slice A n c] w fun e w' => ∃ (A : Option Addr) (c : Nat) (rs : List Row) (y : Int) (A2 : Option Addr) (m c2 : Nat) (ls : List LfV), e = .returned (.tuple #[.slice A rs.length c, .int .i64 y, .slice A2 m c2]) ∧ rs.length ≤ 31 ∧ m ≤ 60000 ∧ RowsAt w' A rs.length c rs ∧ LeavesAt w' A2 m c2 ls ∧ Below w.heap.size w w' := by
  obtain ⟨i0, hi, hz0, hz1, hz2⟩ := info_parts infoInt
  go_enter Try.func25, Try.ntmps25
  go_wp2_with fail
  refine (r_open A n c xs _ h).mono ?_
  rintro e w1 ⟨g, rfl, hg, hr, B0⟩
  go_wp2_with fail
  refine (r_rows' g _ 14 _ hr (by omega) (by omega)).mono ?_
  rintro e w2 ⟨A2, c2, rs, rfl, hl, O, hr2, hg2⟩
  have hgl := hr.lt
  have D : DSt w1 g (0 + 500) w2 := ⟨hr2, hg2, hgl⟩
  clear hr hr2 hg2
  go_wp2_with fail
  refine (r_high g _ _ D.rd (by omega)).mono ?_
  rintro e w3 ⟨y, rfl, hy, hr, hgr⟩
  replace O := O.pick hgr hgl
  replace D := D.pick hr hgr
  clear hr hgr
  go_wp2_with fail
  refine (c_makeLeaves' A2 _ c2 rs y _ O.at_).mono ?_
  rintro e w4 ⟨A4, c4, ls, rfl, el, X, hb⟩
  have hls := lfs_len el
  have hbX := X.at_.bd
  have hbR := O.at_.bd
  have HA2 : ∀ k, (Value.slice A2 rs.length c2).ownBlock = some k → k < w3.heap.size := fun k hk => (World.ownsRow.lt O k hk).2
  have HA := hide HA2
  clear HA2
  have hx3 := D.gr.size
  have hx34 := hb.size
  replace D := D.next hb
  replace O := O.next hb
  have hgw3 : g < w3.heap.size := by omega
  have HF := hide (lfs_figs el)
  clear hb el
  cases ls with
  | nil =>
    go_wp2
    go_ret3
    exact ⟨A2, c2, rs, _, A4, 0, c4, [], rfl, hl, by omega, O.at_, X.at_, r_fresh hg B0 D.gr⟩
  | cons l0 lt =>
    obtain ⟨L, HL⟩ : ∃ L, Hid ((l0 :: lt).length = L) := ⟨_, rfl⟩
    have hL0 : 0 < L := by rw [← unhide HL]; simp
    obtain ⟨ls, HLS⟩ : ∃ ls, Hid (l0 :: lt = ls) := ⟨_, rfl⟩
    rw [unhide HLS] at X HL hls hbX HF ⊢
    rw [unhide HL] at hls hbX ⊢
    clear HLS
    have hL0' : decide ((0 : Int) < (L : Int)) = true := by simp; omega
    go_wp2_with fail
    refine (r_odd g _ 2 _ D.rd (by omega) (by omega)).mono ?_
    rintro e w5 ⟨bb, rfl, -, hr, hgr⟩
    replace X := X.kept hgr (by intro k e; injection e with e; omega)
    replace O := O.pick hgr hgl
    replace D := D.pick hr hgr
    clear hr hgr
    cases bb with
    | false =>
      have XA := X.at_
      rw [unhide HL] at XA
      go_wp2
      go_ret3
      exact ⟨A2, c2, rs, _, A4, L, c4, ls, rfl, hl, by omega, O.at_, XA, r_fresh hg B0 D.gr⟩
    | true =>
      go_wp2_with fail
      refine (r_pick g _ _ _ D.rd (by omega)).mono ?_
      rintro e w6 ⟨k, rfl, hk, hr, hgr⟩
      replace X := X.kept hgr (by intro k e; injection e with e; omega)
      replace O := O.pick hgr hgl
      replace D := D.pick hr hgr
      clear hr hgr
      go_wp2_with fail
      refine (r_pick g _ _ _ D.rd (by omega)).mono ?_
      rintro e w7 ⟨j, rfl, hj, hr, hgr⟩
      replace X := X.kept hgr (by intro k e; injection e with e; omega)
      replace O := O.pick hgr hgl
      replace D := D.pick hr hgr
      clear hr hgr
      have hkL : k < L := by omega
      have hA : ∃ g4, A4 = some ⟨g4, 0, none⟩ := by
        rcases X.row.2 with ⟨_, h0⟩ | ⟨g, _, _, hv, _⟩
        · have := unhide HL; omega
        · injection hv with hA; exact ⟨g, hA⟩
      obtain ⟨g4, rfl⟩ := hA
      have XA := X.at_
      rw [unhide HL] at XA
      obtain ⟨b, off, l, e0, hbl, hx, hf, q0, q1, q2, q3⟩ := XA.at_ hkL
      obtain ⟨rfl, rfl⟩ : g4 = b ∧ 0 = off := by simpa using e0
      simp only [Nat.zero_add] at q0 q1 q2 q3
      obtain ⟨p, s, rfl, hp⟩ := split_at hx
      have hfl : l.figs.length ≤ 30 := unhide HF l (by simp)
      have f1 := X.row.frozenAt (k * 4 + 1)
      have f2 := X.row.frozenAt (k * 4 + 2)
      have f3 := X.row.frozenAt (k * 4 + 3)
      have hg4 := (World.ownsRow.lt X.row g4 rfl).1
      have hg4' := (World.ownsRow.lt X.row g4 rfl).2
      have hw3 : w.heap.size ≤ w3.heap.size := by have := B0.size; omega
      have BF : Below w.heap.size w w7 := r_fresh hg B0 D.gr
      have HP := hide hp
      clear e0 hx hp HF
      have hjj : j = 0 ∨ j = 1 ∨ j = 2 ∨ j = 3 ∨ j = 4 ∨ j = 5 := by omega
      clear hj
      rcases hjj with rfl | rfl | rfl | rfl | rfl | rfl
      · obtain ⟨A1, T, hsl0⟩ := leaves_tail XA (by omega)
        have hsl := fun wx => hsl0 wx
        have hR := O.at_
        clear X O hsl0
        go_wp2
        go_ret3
        exact ⟨A2, c2, rs, _, A1, L - 1, c4 - 1, _, rfl, hl, by omega, hR, T, BF⟩
      · have hput : ∀ v : Int, LeavesAt (w7.setCell ⟨g4, k * 4 + 1, none⟩ (.int .i64 v)) (some ⟨g4, 0, none⟩) L c4 (p ++ { l with to_ := v } :: s) := fun v => by
          have h1 := X.put1 (l' := { l with to_ := v }) 1 (by omega) (.int .i64 v) rfl (X.far1 (l := l) (by simp) _ _)
          rw [unhide HP, unhide HL] at h1; exact h1
        have hrow : ∀ v : Value, RowsAt (w7.setCell ⟨g4, k * 4 + 1, none⟩ v) A2 rs.length c2 rs := fun v => OwnR.at_ (B := w1.heap.size) (own_hi O (gset (grefl w7 (some g4)) (.inl rfl) v) (unhide HA) (by intro k e; injection e with e; omega))
        clear X O
        go_wp2
        go_ret3
        exact ⟨A2, c2, rs, _, _, _, _, _, rfl, hl, by omega, hrow _, hput _, BF.setCell (p := ⟨g4, k * 4 + 1, none⟩) (by show _ ≤ g4; omega) _⟩
      · have XD := X.next (Below.refl _ _).drew
        go_wp2
        go_region_law
          (go_simp; go_at_call 37; refine (r_pick g _ _ _ D.drew.rd (by omega)).mono ?_; rintro e w8 ⟨x8, rfl, hx8, hr8, hg8⟩; have X8 := XD.kept hg8 (by intro k e; injection e with e; omega); have O8 := OwnR.pick (OwnR.next O (Below.refl _ _).drew) hg8 hgl; have D8 := D.drew.pick hr8 hg8; have z8 := X8.row.frozenAt (k * 4 + 2); have c8 := X8.cellj 2 (by omega) (.int .i64 l.notes) rfl; rw [unhide HP] at c8)
        all_goals
          have hput : ∀ v : Int, LeavesAt (w8.setCell ⟨g4, k * 4 + 2, none⟩ (.int .i64 v)) (some ⟨g4, 0, none⟩) L c4 (p ++ { l with notes := v } :: s) := fun v => by
            have h1 := X8.put1 (l' := { l with notes := v }) 2 (by omega) (.int .i64 v) rfl (X8.far1 (l := l) (by simp) _ _)
            rw [unhide HP, unhide HL] at h1; exact h1
          have hrow : ∀ v : Value, RowsAt (w8.setCell ⟨g4, k * 4 + 2, none⟩ v) A2 rs.length c2 rs := fun v => OwnR.at_ (B := w1.heap.size) (own_hi O8 (gset (grefl w8 (some g4)) (.inl rfl) v) (unhide HA) (by intro k e; injection e with e; omega))
          have BF8 : Below w.heap.size w w8 := r_fresh hg B0 D8.gr
          clear X X8 XD O O8
          go_wp2
          go_ret3
          exact ⟨A2, c2, rs, _, _, _, _, _, rfl, hl, by omega, hrow _, hput _, BF8.setCell (p := ⟨g4, k * 4 + 2, none⟩) (by show _ ≤ g4; omega) _⟩
      · have O0 : (w7.alloc (.cells #[] 3)).ownsRow w7.heap.size 3 1 (.slice (some ⟨w7.heap.size, 0, none⟩) 0 0) 0 [] := World.ownsRow_made w7 #[] 0 (Nat.le_refl _) (Nat.zero_le _) rfl
        have hfa := IntsAt.next hf (bof w7 (.cells #[] 3))
        have XBl : ∀ l' ∈ p ++ l :: s, ∀ b, blkOf l'.A = some b → b < w7.heap.size := fun l' hl' b hb => (blk_lt (X.figs l' hl') hb).2
        have qa := (X.next (bof w7 (.cells #[] 3))).cellj 3 (by omega) (.slice l.A l.figs.length l.c) rfl
        rw [unhide HP] at qa
        have hd1 := D.gr.size
        go_wp2_with (at_builtin; refine wpList_append_rd _ (by rfl) (.tmp 73) (.tmp 78) 24 rfl w7.heap.size 3 i0 _ 1 8 Try.underlying24 hi hz0 hz1 hz2 rfl (by omega) (.slice (some ⟨w7.heap.size, 0, none⟩) 0 0) 0 [] rfl O0 l.A l.figs.length l.c (l.figs.map (Value.int .i64)) rfl hfa.1 (ints_ones l.figs) (by unfold maxLen; omega) (by omega) (by simp) ?_; intro v8 w8 hown8 hg8; have hb8 : Below w7.heap.size w7 w8 := b_own (bof _ _) O0 (Nat.le_refl _) hg8; obtain ⟨A8, c8, rfl, hn8, I8⟩ := OwnI.of (xs := l.figs) (by simpa using hown8); clear hown8 hg8)
        have X8 := X.next hb8
        have O8 := OwnR.next O hb8
        have D8 := D.next hb8
        have hs8 := hb8.size
        clear X O D O0 qa hfa hf XA q0 q1 q2 q3 f1 f2 f3 BF
        refine (r_pick g _ _ _ D8.rd (by omega)).mono ?_
        rintro e w9 ⟨x9, rfl, hx9, hr, hgr⟩
        have X9 := X8.kept hgr (by intro k e; injection e with e; omega)
        have O9 := OwnR.pick O8 hgr hgl
        have D9 := D8.pick hr hgr
        have hs9 := hgr.size
        have I9 : OwnI w9 w7.heap.size A8 c8 l.figs := World.ownsRow.kept I8 hgr (by
          cases hv : (Value.slice A8 l.figs.length c8).ownBlock with
          | none => exact .inl rfl
          | some b => exact .inr (fun e => by have := (World.ownsRow.lt I8 b hv).1; injection e with e; omega))
        have I9B : ∀ b, (Value.slice A8 l.figs.length c8).ownBlock = some b → w7.heap.size ≤ b := fun b hb => (World.ownsRow.lt I9 b hb).1
        clear X8 O8 D8 I8 hr hgr
        go_wp2_with (at_builtin; go_loud (refine wpList_push_Ia (B := w7.heap.size) (x9 : Int) rfl rfl I9 rfl rfl (by omega) (by omega) ?_); intro A6 c6 w6 I6 hg6 hpre hnew; go_loud (have X6 := (X9.next (bof w9 (.cells #[.int .i64 x9] 3))).dj hg6 (fun b hb e => by have h1 := I9B b hb; have h2 : g4 = b := (by simpa [blkOf] using e); omega) (fun l' hl' b hb e => by have h1 := I9B b hb; have h2 := XBl l' hl' b e; omega)); have f6 := X6.row.frozenAt (k * 4 + 3); have c6' := X6.cellj 3 (by omega) (.slice l.A l.figs.length l.c) rfl; rw [unhide HP] at c6')
        have hput : ∀ v : Value, v = .slice A6 (l.figs.length + 1) c6 → LeavesAt (w6.setCell ⟨g4, k * 4 + 3, none⟩ v) (some ⟨g4, 0, none⟩) L c4 (p ++ { l with A := A6, c := c6, figs := l.figs ++ [(x9 : Int)] } :: s) := fun v hv => by
          subst hv
          have hI : IntsAt (w6.setCell ⟨g4, k * 4 + 3, none⟩ (.slice A6 (l.figs.length + 1) c6)) A6 (l.figs ++ [(x9 : Int)]).length c6 (l.figs ++ [(x9 : Int)]) :=
            OwnI.at_ (B := w7.heap.size) (I6.far (p := ⟨g4, k * 4 + 3, none⟩) hg4' _)
          have h1 := X6.put1 (l' := { l with A := A6, c := c6, figs := l.figs ++ [(x9 : Int)] }) 3 (by omega) (.slice A6 (l.figs.length + 1) c6) (by simp [LfV.cells]) (by rw [unhide HP]; exact hI)
          rw [unhide HP, unhide HL] at h1; exact h1
        have hb69 : Below w7.heap.size w9 w6 := (Below.grown ((Below.refl _ w9).alloc (by omega) (.cells #[.int .i64 x9] 3)) hg6 (by simp; omega) I9B)
        have O6 : OwnR w6 w1.heap.size A2 c2 rs := World.ownsRow.kept (OwnR.next O9 (bof w9 (.cells #[.int .i64 x9] 3))) hg6 (by
          cases hv : (Value.slice A2 rs.length c2).ownBlock with
          | none => exact .inl rfl
          | some b => exact .inr (fun e => by have h1 := I9B b e.symm; have h2 := unhide HA b hv; omega))
        have hrow : ∀ v : Value, RowsAt (w6.setCell ⟨g4, k * 4 + 3, none⟩ v) A2 rs.length c2 rs := fun v => OwnR.at_ (B := w1.heap.size) (own_hi O6 (gset (grefl w6 (some g4)) (.inl rfl) v) (unhide HA) (by intro k e; injection e with e; omega))
        have BF9 : Below w.heap.size w w9 := r_fresh hg B0 D9.gr
        have BF6 := BF9.trans (hb69.mono (by omega))
        go_ret3
        exact ⟨A2, c2, rs, _, _, _, _, _, rfl, hl, by omega, hrow _, hput _ rfl, BF6.setCell (p := ⟨g4, k * 4 + 3, none⟩) (by show _ ≤ g4; omega) _⟩
      · have hput : LeavesAt (w7.setCell ⟨g4, k * 4 + 3, none⟩ (.slice none 0 0)) (some ⟨g4, 0, none⟩) L c4 (p ++ { l with A := none, c := 0, figs := [] } :: s) := by
          have h1 := X.put1 (l' := { l with A := none, c := 0, figs := [] }) 3 (by omega) (.slice none 0 0) rfl (IntsAt.nil _ none 0 (by omega))
          rw [unhide HP, unhide HL] at h1; exact h1
        have hrow : ∀ v : Value, RowsAt (w7.setCell ⟨g4, k * 4 + 3, none⟩ v) A2 rs.length c2 rs := fun v => OwnR.at_ (B := w1.heap.size) (own_hi O (gset (grefl w7 (some g4)) (.inl rfl) v) (unhide HA) (by intro k e; injection e with e; omega))
        clear X O
        go_wp2
        go_ret3
        exact ⟨A2, c2, rs, _, _, _, _, _, rfl, hl, by omega, hrow _, hput, BF.setCell (p := ⟨g4, k * 4 + 3, none⟩) (by show _ ≤ g4; omega) _⟩
      · have hR := O.at_
        clear X O
        go_wp2
        go_ret3
        exact ⟨A2, c2, rs, _, _, _, _, _, rfl, hl, by omega, hR, XA, BF⟩
end Go.Proofs.Ytfflnkkhemaanaa
