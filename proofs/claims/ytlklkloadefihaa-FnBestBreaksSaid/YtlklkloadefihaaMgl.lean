/- Slices of glue in memory; an append of a glue, of a number; the sum of glues: contracts. · The reference's sum of glues over a line: contracts. · Glues of the reference: their validity and their sum: contracts. No condition. -/
import Derived.Test.YtlklkloadefihaaMa
import Derived.Maps.AppendAt
import Derived.Deep.RegionLaw
namespace Go.Proofs.Ytlklkloadefihaa
open Go.RowKit
set_option linter.unusedVariables false

def Gl.cells (g : Gl) : List Value := [.int .i64 g.w, .int .i64 g.st, .int .i64 g.sh, .int .i64 g.od]
theorem Gl.cells_len (g : Gl) : g.cells.length = 4 := rfl
def GlsAt (w : World) (A : Option Addr) (n c : Nat) (gs : List Gl) : Prop := Sl w A n c 4 (gs.flatMap Gl.cells)
section gls
variable {w w' : World} {A : Option Addr} {n c k : Nat} {gs : List Gl}
theorem GlsAt.len (h : GlsAt w A n c gs) : gs.length = n := by
  have := Rd.len h.1; rw [flatMap_len Gl.cells_len] at this; omega
theorem GlsAt.next (h : GlsAt w A n c gs) (hb : Below w.heap.size w w') : GlsAt w' A n c gs := Sl.next h hb
theorem GlsAt.bd (h : GlsAt w A n c gs) : n ≤ c ∧ c ≤ 9223372036854775807 := h.2
theorem GlsAt.at_ (h : GlsAt w A n c gs) (hk : k < n) : ∃ b off g, A = some ⟨b, off, none⟩ ∧ b < w.heap.size ∧ gs[k]? = some g ∧ w.cell? ⟨b, off + k * 4, none⟩ = some (.int .i64 g.w) ∧ w.cell? ⟨b, off + k * 4 + 1, none⟩ = some (.int .i64 g.st) ∧ w.cell? ⟨b, off + k * 4 + 2, none⟩ = some (.int .i64 g.sh) ∧ w.cell? ⟨b, off + k * 4 + 3, none⟩ = some (.int .i64 g.od) := by
  obtain ⟨b, off, e, hl, hc⟩ := Rd.cells h.1 (by omega)
  have hlen := h.len
  have hx : gs[k]? = some (gs[k]'(by omega)) := List.getElem?_eq_getElem (by omega)
  have hg := fun j hj => flatMap_get Gl.cells_len gs k j _ hx hj
  refine ⟨b, off, _, e, hl, hx, ?_, ?_, ?_, ?_⟩
  · exact hc (k * 4 + 0) _ (hg 0 (by omega))
  · exact hc (k * 4 + 1) _ (hg 1 (by omega))
  · exact hc (k * 4 + 2) _ (hg 2 (by omega))
  · exact hc (k * 4 + 3) _ (hg 3 (by omega))
end gls
theorem infoGlue : (Try.prog.info? 29).map (fun i => (i.zero, i.size, i.bytes)) = some (some (.agg #[.int .i64 0, .int .i64 0, .int .i64 0, .int .i64 0]), 4, 32) := by kernel_rfl
theorem flat_snoc_gls (gs : List Gl) (g : Gl) : (gs ++ [g]).flatMap Gl.cells = gs.flatMap Gl.cells ++ [.int .i64 g.w, .int .i64 g.st, .int .i64 g.sh, .int .i64 g.od] := by simp [Gl.cells]
theorem cells_new_gls (w : World) (t : TypeId) (a0 a1 a2 a3 : Value) : ∀ j u, [a0, a1, a2, a3][j]? = some u → (w.alloc (.cells #[a0, a1, a2, a3] t)).cell? ((⟨w.heap.size, 0, none⟩ : Addr).add j) = some u := by
  intro j u hj
  rw [add_lit', Nat.zero_add, (Blk.new w t #[a0, a1, a2, a3]).cell j]
  simpa using hj
theorem one_gls (g : Gl) : ∀ u ∈ ([.int .i64 g.w, .int .i64 g.st, .int .i64 g.sh, .int .i64 g.od] : List Value), u.oneCell' = true := by
  intro u hu; simp at hu; rcases hu with rfl | rfl | rfl | rfl <;> rfl
/-- A slice of glues that the call itself made. -/
def OwnG (w : World) (B : Nat) (A : Option Addr) (c : Nat) (gs : List Gl) : Prop := w.ownsRow B 29 4 (.slice A gs.length c) gs.length (gs.flatMap Gl.cells)
section owng
variable {w w' : World} {A : Option Addr} {B c : Nat} {gs : List Gl}
theorem OwnG.at_ (h : OwnG w B A c gs) : GlsAt w A gs.length c gs := Sl.of_own h
theorem OwnG.next (h : OwnG w B A c gs) (hb : Below w.heap.size w w') : OwnG w' B A c gs := own_next h hb
theorem OwnG.nil_ (w : World) (B : Nat) : OwnG w B none 0 [] := World.ownsRow_nil w B _ _
theorem OwnG.of {v : Value} (h : w.ownsRow B 29 4 v gs.length (gs.flatMap Gl.cells)) : ∃ A c, v = .slice A gs.length c ∧ OwnG w B A c gs := by
  obtain ⟨A, c, rfl, _, _, _, _, h'⟩ := own_form h
  exact ⟨A, c, rfl, h'⟩
end owng
theorem wpList_push_G {ops : Array Oper} {rest : List Oper} {o : Oper} {a : Act} {Q : Exit → Act → World → Prop} {B : Nat} {w : World} {s x : Operand} {A : Option Addr} {c : Nat} {gs : List Gl} (g : Gl) (hw : o.guard = none)
    (ho : o.op = .call { callee := .builtin .append, args := #[s, x], argTypes := #[65, 65] }) (hown : OwnG w B A c gs) (hs : a.eval s = .slice A gs.length c) (hx : a.eval x = .slice (some ⟨w.heap.size, 0, none⟩) 1 1) (hlen : gs.length ≤ 1000000000) (hB : B ≤ w.heap.size)
    (h : ∀ A' c' w', OwnG w' B A' c' (gs ++ [g]) → (w.alloc (.cells #[.int .i64 g.w, .int .i64 g.st, .int .i64 g.sh, .int .i64 g.od] 29)).grownBy w' (Value.slice A gs.length c).ownBlock → OwnG (w.alloc (.cells #[.int .i64 g.w, .int .i64 g.st, .int .i64 g.sh, .int .i64 g.od] 29)) B A c gs → wpList Try.prog ops Q rest (a.put o.dst (.slice A' (gs.length + 1) c')) w') :
    wpList Try.prog ops Q (o :: rest) a (w.alloc (.cells #[.int .i64 g.w, .int .i64 g.st, .int .i64 g.sh, .int .i64 g.od] 29)) := by
  obtain ⟨i0, hi, hz0, hz1, hz2⟩ := info_parts infoGlue
  have ho2 : OwnG (w.alloc (.cells #[.int .i64 g.w, .int .i64 g.st, .int .i64 g.sh, .int .i64 g.od] 29)) B A c gs := World.ownsRow.alloc hown _
  refine wpList_append_own_at _ hw s x 65 ho B 29 i0 _ 4 32 Try.underlying65 hi hz0 hz1 hz2 rfl (by decide) _ _ _ hs ho2 ⟨w.heap.size, 0, none⟩ 1 1 [.int .i64 g.w, .int .i64 g.st, .int .i64 g.sh, .int .i64 g.od] hx rfl (cells_new_gls _ _ _ _ _ _) (one_gls g) (by unfold maxLen; omega) (by omega) (by simp; omega) ?_
  intro v3 w3 hown3 hg3 _ hat
  have hown4 : w3.ownsRow B 29 4 v3 (gs ++ [g]).length ((gs ++ [g]).flatMap Gl.cells) := by rw [flat_snoc_gls]; simpa using hown3
  obtain ⟨A4, c4, rfl, hown5⟩ := OwnG.of hown4
  have := h A4 c4 w3 hown5 hg3 ho2
  simpa using this
theorem wpList_push_N {ops : Array Oper} {rest : List Oper} {o : Oper} {a : Act} {Q : Exit → Act → World → Prop} {B : Nat} {w : World} {s x : Operand} {A : Option Addr} {c : Nat} {rs : List Int} (r : Int) (hw : o.guard = none)
    (ho : o.op = .call { callee := .builtin .append, args := #[s, x], argTypes := #[34, 34] }) (hown : OwnI w B A c rs) (hs : a.eval s = .slice A rs.length c) (hx : a.eval x = .slice (some ⟨w.heap.size, 0, none⟩) 1 1) (hlen : rs.length ≤ 1000000000) (hB : B ≤ w.heap.size)
    (h : ∀ A' c' w', OwnI w' B A' c' (rs ++ [r]) → (w.alloc (.cells #[.int .i64 r] 3)).grownBy w' (Value.slice A rs.length c).ownBlock → (OwnI (w.alloc (.cells #[.int .i64 r] 3)) B A c rs) → wpList Try.prog ops Q rest (a.put o.dst (.slice A' (rs.length + 1) c')) w') :
    wpList Try.prog ops Q (o :: rest) a (w.alloc (.cells #[.int .i64 r] 3)) := by
  obtain ⟨i0, hi, hz0, hz1, hz2⟩ := info_parts infoInt
  have ho2 : OwnI (w.alloc (.cells #[.int .i64 r] 3)) B A c rs := World.ownsRow.alloc hown _
  refine wpList_append_own_at _ hw s x 34 ho B 3 i0 _ 1 8 Try.underlying34 hi hz0 hz1 hz2 rfl (by decide) _ _ _ hs ho2 ⟨w.heap.size, 0, none⟩ 1 1 [.int .i64 r] hx rfl (one_new _ _ _) (one_one _) (by unfold maxLen; omega) (by omega) (by simp; omega) ?_
  intro v3 w3 hown3 hg3 _ hat
  have hown4 : w3.ownsRow B 3 1 v3 (rs.length + 1) ((rs ++ [r]).map (Value.int .i64)) := by rw [List.map_append]; exact hown3
  obtain ⟨A4, c4, rfl, hl4, hown5⟩ := OwnI.of hown4
  have := h A4 c4 w3 hown5 hg3 ho2
  simpa using this
/-- An append onto a row that was made behind w0 turns nothing that was there. -/
theorem b_push {w0 w w' : World} {B e sz n : Nat} {o : Obj} {v : Value} {xs : List Value} (h : Below w0.heap.size w0 w) (ho : (w.alloc o).ownsRow B e sz v n xs) (hB : w0.heap.size ≤ B) (hg : (w.alloc o).grownBy w' v.ownBlock) : Below w0.heap.size w0 w' :=
  b_own (bmk h o) ho hB hg

theorem take_all_ok {gs : List Gl} (h : gs.all Gl.ok = true) (k : Nat) : (gs.take k).all Gl.ok = true := by
  rw [List.all_eq_true] at h ⊢
  exact fun x hx => h x (List.mem_of_mem_take hx)
theorem gOd_snoc_has {l : List Gl} {g : Gl} (h : gHas g = true) : gOd (l ++ [g]) = 1 := by simp [gOd, gAny_snoc, h]
theorem gOd_snoc_not {l : List Gl} {g : Gl} (h : gHas g = false) : gOd (l ++ [g]) = gOd l := by simp [gOd, gAny_snoc, h]
set_option maxHeartbeats 1600000 in
theorem c_glTotal (A : Option Addr) (n c : Nat) (gs : List Gl) (w : World) (hR : GlsAt w A n c gs) (hok : gs.all Gl.ok = true) (hn : n ≤ 100) :
    Calls Try.prog 50 #[.slice A n c] w fun e w' => e = .returned (.agg #[.int .i64 (gTot gs).w, .int .i64 (gTot gs).st, .int .i64 (gTot gs).sh, .int .i64 (gTot gs).od]) ∧ Below w.heap.size w w' := by
  have hlen := hR.len
  have hbd := hR.bd
  have HOK := hide hok
  have HLEN := hide hlen
  clear hok hlen
  have hB := bmk (bof w (.cells #[.int .i64 0, .int .i64 0, .int .i64 0, .int .i64 0] 29)) (.cells #[.int .i64 0, .int .i64 0, .int .i64 0, .int .i64 0] 29)
  have q0 := (Blk.new w 29 #[.int .i64 0, .int .i64 0, .int .i64 0, .int .i64 0]).alloc (.cells #[.int .i64 0, .int .i64 0, .int .i64 0, .int .i64 0] 29)
  have q1 := Blk.new (w.alloc (.cells #[.int .i64 0, .int .i64 0, .int .i64 0, .int .i64 0] 29)) 29 #[.int .i64 0, .int .i64 0, .int .i64 0, .int .i64 0]
  simp only [size_alloc'] at q1
  go_enter Try.func50, Try.ntmps50
  go_wp2
  go_loopw [10] (fun i wr => ∃ (k : Nat) (od : Int), k ≤ n ∧ i = .int .i64 k ∧ Hid (od = gOd (gs.take k)) ∧ Blk wr w.heap.size 29 #[.int .i64 0, .int .i64 0, .int .i64 0, .int .i64 0] ∧ Blk wr (w.heap.size + 1) 29 #[.int .i64 0, .int .i64 0, .int .i64 0, .int .i64 od] ∧ Below w.heap.size w wr) (fun i _ => n - (intOf i).toNat)
  case atStart => exact ⟨0, 0, Nat.zero_le _, rfl, rfl, q0, q1, hB⟩
  case round =>
    clear q0 q1 hB
    obtain ⟨k, od, hk, rfl, hod, q0, q1, hb⟩ := hrel
    by_cases hlt : k < n
    · obtain ⟨b, off, g, rfl, hbl, hg, h0, h1, h2, h3⟩ := (hR.next hb).at_ hlt
      have u1 := q1.alloc (.cells #[.int .i64 g.w, .int .i64 g.st, .int .i64 g.sh, .int .i64 g.od] 29)
      have u0 := q0.alloc (.cells #[.int .i64 g.w, .int .i64 g.st, .int .i64 g.sh, .int .i64 g.od] 29)
      have hb2 := bmk hb (.cells #[.int .i64 g.w, .int .i64 g.st, .int .i64 g.sh, .int .i64 g.od] 29)
      by_cases ho1 : g.od = 1 <;> by_cases hs1 : 0 < g.st
      · have H : Hid ((1 : Int) = gOd (gs.take (k + 1))) := by show _ = _; rw [take_snoc' hg, gOd_snoc_has (by simp [gHas, ho1, hs1])]
        have h3' : wr.cell? ⟨b, off + k * 4 + 3, none⟩ = some (.int .i64 1) := by rw [h3, ho1]
        rw [ho1] at u0 u1 hb2
        have c3 := u1.cell 3
        have f3 := u1.frozen 3
        have v1 := u1.set_ 3 (.int .i64 1)
        have v0 := u0.far (p := ⟨w.heap.size + 1, 3, none⟩) (by dsimp only; omega) (.int .i64 1)
        have hb3 := hb2.setCell (p := ⟨w.heap.size + 1, 3, none⟩) (by dsimp only; omega) (.int .i64 1)
        clear hod hg h3 ho1 q0 q1 u0 u1
        go_wp2
        go_roundw
        case rel => exact ⟨k + 1, 1, by omega, by go_num, H, v0, v1, hb3⟩
        case measure => simp [intOf]; omega
      all_goals
        have H : Hid (od = gOd (gs.take (k + 1))) := by show _ = _; rw [take_snoc' hg, gOd_snoc_not (by simp [gHas, ho1, hs1]), unhide hod]
        have ho' : (g.od == 1 && decide (0 < g.st)) = false := by simp [ho1, hs1]
        first
        | (have h3' : wr.cell? ⟨b, off + k * 4 + 3, none⟩ = some (.int .i64 1) := by rw [h3, ho1]
           clear h3
           rw [ho1] at u0 u1 hb2)
        | (have ho1' : (g.od == 1) = false := by simpa using ho1)
        clear hod hg q0 q1
        go_wp2
        go_roundw
        case rel => exact ⟨k + 1, od, by omega, by go_num, H, u0, u1, hb2⟩
        case measure => simp [intOf]; omega
    · obtain rfl : n = k := by omega
      obtain ⟨o, HO⟩ : ∃ o, Hid (o = gOd gs) := ⟨_, rfl⟩
      have e1 : od = o := by rw [unhide hod, unhide HO, List.take_of_length_le (by rw [unhide HLEN]; exact Nat.le_refl _)]
      subst e1
      clear hod
      go_wp2
      go_loopw [26] (fun i wr => ∃ (k : Nat) (x st sh : Int), k ≤ n ∧ i = .int .i64 k ∧ Hid (x = gW (gs.take k) ∧ st = gSt od (gs.take k) ∧ sh = gSh (gs.take k)) ∧ Blk wr w.heap.size 29 #[.int .i64 0, .int .i64 0, .int .i64 0, .int .i64 0] ∧ Blk wr (w.heap.size + 1) 29 #[.int .i64 x, .int .i64 st, .int .i64 sh, .int .i64 od] ∧ Below w.heap.size w wr) (fun i _ => n - (intOf i).toNat)
      case atStart => exact ⟨0, 0, 0, 0, Nat.zero_le _, rfl, ⟨rfl, rfl, rfl⟩, q0, q1, hb⟩
      case round =>
        clear q0 q1 hb
        obtain ⟨k, x, st, sh, hk, rfl, hx, q0, q1, hb⟩ := hrel
        have tk := take_all_ok (unhide HOK) k
        have bx := gW_bd tk
        have bs := gSt_bd (o := od) tk
        have bh := gSh_bd tk
        have bl : (gs.take k).length ≤ k := by simp; omega
        rw [← (unhide hx).1] at bx
        rw [← (unhide hx).2.1] at bs
        rw [← (unhide hx).2.2] at bh
        have xx : 0 ≤ x ∧ x ≤ 100000 := by omega
        have ss : 0 ≤ st ∧ st ≤ 100000 := by omega
        have hh : 0 ≤ sh ∧ sh ≤ 100000 := by omega
        clear tk bx bs bh bl
        by_cases hlt : k < n
        · obtain ⟨b, off, g, rfl, hbl, hg, h0, h1, h2, h3⟩ := (hR.next hb).at_ hlt
          have gk := Gl.ok_iff.1 (List.all_eq_true.1 (unhide HOK) g (mem_of_get hg))
          obtain ⟨G1, G2, G3, G4⟩ := gk
          have u1 := q1.alloc (.cells #[.int .i64 g.w, .int .i64 g.st, .int .i64 g.sh, .int .i64 g.od] 29)
          have u0 := q0.alloc (.cells #[.int .i64 g.w, .int .i64 g.st, .int .i64 g.sh, .int .i64 g.od] 29)
          have hb2 := bmk hb (.cells #[.int .i64 g.w, .int .i64 g.st, .int .i64 g.sh, .int .i64 g.od] 29)
          have cB0 := u1.cell 0
          have cB1 := u1.cell 1
          have cB2 := u1.cell 2
          have cB3 := u1.cell 3
          have fB0 := u1.frozen 0
          have fB1 := u1.frozen 1
          have fB2 := u1.frozen 2
          have v1 := (u1.set_ 0 (.int .i64 (x + g.w))).set_ 2 (.int .i64 (sh + g.sh))
          have v0 := (u0.far (p := ⟨w.heap.size + 1, 0, none⟩) (by dsimp only; omega) (.int .i64 (x + g.w))).far (p := ⟨w.heap.size + 1, 2, none⟩) (by dsimp only; omega) (.int .i64 (sh + g.sh))
          have hb3 := (hb2.setCell (p := ⟨w.heap.size + 1, 0, none⟩) (by dsimp only; omega) (.int .i64 (x + g.w))).setCell (p := ⟨w.heap.size + 1, 2, none⟩) (by dsimp only; omega) (.int .i64 (sh + g.sh))
          by_cases hoo : g.od = od
          · have H : Hid (x + g.w = gW (gs.take (k + 1)) ∧ st + g.st = gSt od (gs.take (k + 1)) ∧ sh + g.sh = gSh (gs.take (k + 1))) := by
              show _ ∧ _ ∧ _
              rw [take_snoc' hg, gW_snoc, gSt_snoc, gSh_snoc, ← (unhide hx).1, ← (unhide hx).2.1, ← (unhide hx).2.2, gPart, if_pos hoo]
              exact ⟨rfl, rfl, rfl⟩
            subst hoo
            have v1' := v1.set_ 1 (.int .i64 (st + g.st))
            have v0' := v0.far (p := ⟨w.heap.size + 1, 1, none⟩) (by dsimp only; omega) (.int .i64 (st + g.st))
            have hb4 := hb3.setCell (p := ⟨w.heap.size + 1, 1, none⟩) (by dsimp only; omega) (.int .i64 (st + g.st))
            clear hx hg q0 q1 u0 u1 v0 v1 hb2 hb3
            go_wp2
            go_roundw
            case rel => exact ⟨k + 1, _, _, _, by omega, by go_num, H, v0', v1', hb4⟩
            case measure => simp [intOf]; omega
          · have H : Hid (x + g.w = gW (gs.take (k + 1)) ∧ st = gSt od (gs.take (k + 1)) ∧ sh + g.sh = gSh (gs.take (k + 1))) := by
              show _ ∧ _ ∧ _
              rw [take_snoc' hg, gW_snoc, gSt_snoc, gSh_snoc, ← (unhide hx).1, ← (unhide hx).2.1, ← (unhide hx).2.2, gPart, if_neg hoo]
              exact ⟨rfl, by omega, rfl⟩
            have hoo' : (g.od == od) = false := by simpa using hoo
            clear hx hg q0 q1 u0 u1 hb2
            go_wp2
            go_roundw
            case rel => exact ⟨k + 1, _, _, _, by omega, by go_num, H, v0, v1, hb3⟩
            case measure => simp [intOf]; omega
        · obtain rfl : n = k := by omega
          have H : Hid (x = (gTot gs).w ∧ st = (gTot gs).st ∧ sh = (gTot gs).sh ∧ od = (gTot gs).od) := by
            have h := unhide hx
            rw [List.take_of_length_le (by rw [unhide HLEN]; exact Nat.le_refl _)] at h
            rw [unhide HO] at h ⊢
            exact ⟨h.1, h.2.1, h.2.2, rfl⟩
          have cA0 := q0.cell 0
          have cA1 := q0.cell 1
          have cA2 := q0.cell 2
          have cA3 := q0.cell 3
          have fA0 := q0.frozen 0
          have fA1 := q0.frozen 1
          have fA2 := q0.frozen 2
          have fA3 := q0.frozen 3
          have cB0 := q1.cell 0
          have cB1 := q1.cell 1
          have cB2 := q1.cell 2
          have cB3 := q1.cell 3
          clear hx HO q0 q1
          go_wp2
          obtain ⟨e0, e1, e2, e3⟩ := unhide H
          rw [← e0, ← e1, ← e2, ← e3]
          refine bodyPost_ret (v := .agg #[.int .i64 x, .int .i64 st, .int .i64 sh, .int .i64 od]) (by simp [results, Try.results50, go_sem, *]) rfl ⟨rfl, ?_⟩
          repeat (refine Below.setCell ?_ (by dsimp only; omega) _)
          exact hb
end Go.Proofs.Ytlklkloadefihaa

namespace Go.Proofs.Ytlklkloadefihaa
open Go.RowKit
set_option linter.unusedVariables false

/-- Numbers of a glue, or of a sum of glues, that cannot overflow. -/
structure Gl.Small (g : Gl) : Prop where
  w : 0 ≤ g.w ∧ g.w ≤ 1000000
  st : 0 ≤ g.st ∧ g.st ≤ 1000000
  sh : 0 ≤ g.sh ∧ g.sh ≤ 1000000
  od : g.od = 0 ∨ g.od = 1
theorem Gl.small_ok {g : Gl} (h : g.ok = true) : g.Small := by
  rw [Gl.ok_iff] at h; exact ⟨by omega, by omega, by omega, by omega⟩
theorem small_tot {l : List Gl} (h : l.all Gl.ok = true) (hl : l.length ≤ 1000) : (gTot l).Small := by
  have a := gW_bd h
  have b := gSt_bd (o := gOd l) h
  have c := gSh_bd h
  refine ⟨?_, ?_, ?_, ?_⟩
  · show 0 ≤ gW l ∧ gW l ≤ _; omega
  · show 0 ≤ gSt _ l ∧ gSt _ l ≤ _; omega
  · show 0 ≤ gSh l ∧ gSh l ≤ _; omega
  · show gOd l = 0 ∨ gOd l = 1; unfold gOd; split <;> simp
theorem m01 : max (0 : Int) 1 = 1 := rfl
theorem m10 : max (1 : Int) 0 = 1 := rfl
set_option maxRecDepth 100000 in
set_option maxHeartbeats 8000000 in
theorem c_l1Add (a b : Gl) (w : World) (ha : a.Small) (hb : b.Small) :
    Calls Try.prog 92 #[.agg #[.int .i64 a.w, .int .i64 a.st, .int .i64 a.sh, .int .i64 a.od], .agg #[.int .i64 b.w, .int .i64 b.st, .int .i64 b.sh, .int .i64 b.od]] w fun e w' => e = .returned (.agg #[.int .i64 (gAdd a b).w, .int .i64 (gAdd a b).st, .int .i64 (gAdd a b).sh, .int .i64 (gAdd a b).od]) ∧ Below w.heap.size w w' := by
  obtain ⟨aw, ast, ash, aod⟩ := a
  obtain ⟨bw, bst, bsh, bod⟩ := b
  obtain ⟨⟨a1, a1'⟩, ⟨a2, a2'⟩, ⟨a3, a3'⟩, a4⟩ := ha
  obtain ⟨⟨b1, b1'⟩, ⟨b2, b2'⟩, ⟨b3, b3'⟩, b4⟩ := hb
  dsimp only at a1 a1' a2 a2' a3 a3' a4 b1 b1' b2 b2' b3 b3' b4 ⊢
  obtain ⟨R, HR⟩ : ∃ R, Hid (gAdd ⟨aw, ast, ash, aod⟩ ⟨bw, bst, bsh, bod⟩ = R) := ⟨_, rfl⟩
  rw [unhide HR]
  have pa : ast = 0 ∨ (ast ≠ 0 ∧ aod = 0) ∨ (ast ≠ 0 ∧ aod = 1) := by omega
  have pb : bst = 0 ∨ (bst ≠ 0 ∧ bod = 0) ∨ (bst ≠ 0 ∧ bod = 1) := by omega
  clear a4 b4
  rcases pa with rfl | ⟨az, rfl⟩ | ⟨az, rfl⟩ <;> rcases pb with rfl | ⟨bz, rfl⟩ | ⟨bz, rfl⟩
  all_goals
    go_enter Try.func92, Try.ntmps92
    go_wp2_with (refine wpList_max rfl rfl rfl rfl ?_)
    have e := unhide HR
    refine bodyPost_ret (v := .agg #[.int .i64 R.w, .int .i64 R.st, .int .i64 R.sh, .int .i64 R.od]) (by simp [results, Try.results92, go_sem]; rw [← e]; simp [gAdd, m01, m10, *]) rfl ⟨rfl, ?_⟩
    repeat (refine Below.setCell ?_ (by dsimp only; omega) _)
    exact bmk (bmk (bmk (bmk (bmk (bof _ _) _) _) _) _) _
end Go.Proofs.Ytlklkloadefihaa

namespace Go.Proofs.Ytlklkloadefihaa
open Go.RowKit
set_option linter.unusedVariables false

theorem wpList_push_L {ops : Array Oper} {rest : List Oper} {o : Oper} {a : Act} {Q : Exit → Act → World → Prop} {B : Nat} {w : World} {s x : Operand} {A : Option Addr} {c : Nat} {rs : List Int} {H : Nat} (r : Int) (hw : o.guard = none)
    (ho : o.op = .call { callee := .builtin .append, args := #[s, x], argTypes := #[34, 34] }) (hown : OwnI w B A c rs) (hs : a.eval s = .slice A rs.length c) (hx : a.eval x = .slice (some ⟨H, 0, none⟩) 1 1) (hH : w.heap.size = H) (hlen : rs.length ≤ 1000000000) (hB : B ≤ w.heap.size)
    (h : ∀ A' c' w', OwnI w' B A' c' (rs ++ [r]) → (w.alloc (.cells #[.int .i64 r] 3)).grownBy w' (Value.slice A rs.length c).ownBlock → (OwnI (w.alloc (.cells #[.int .i64 r] 3)) B A c rs) →
      (∀ g m, g < w.heap.size → (Value.slice A rs.length c).ownBlock ≠ some g → (Value.slice A' m c').ownBlock ≠ some g) → wpList Try.prog ops Q rest (a.put o.dst (.slice A' (rs.length + 1) c')) w') :
    wpList Try.prog ops Q (o :: rest) a (w.alloc (.cells #[.int .i64 r] 3)) := by
  subst hH
  obtain ⟨i0, hi, hz0, hz1, hz2⟩ := info_parts infoInt
  have ho2 : OwnI (w.alloc (.cells #[.int .i64 r] 3)) B A c rs := World.ownsRow.alloc hown _
  refine wpList_append_own_at _ hw s x 34 ho B 3 i0 _ 1 8 Try.underlying34 hi hz0 hz1 hz2 rfl (by decide) _ _ _ hs ho2 ⟨w.heap.size, 0, none⟩ 1 1 [.int .i64 r] hx rfl (one_new _ _ _) (one_one _) (by unfold maxLen; omega) (by omega) (by simp; omega) ?_
  intro v3 w3 hown3 hg3 _ hat
  have hown4 : w3.ownsRow B 3 1 v3 (rs.length + 1) ((rs ++ [r]).map (Value.int .i64)) := by rw [List.map_append]; exact hown3
  obtain ⟨A4, c4, rfl, hl4, hown5⟩ := OwnI.of hown4
  have := h A4 c4 w3 hown5 hg3 ho2 (fun g m hg hne => by
    have e0 : (Value.slice A4 m c4).ownBlock = (Value.slice A4 (rs ++ [r]).length c4).ownBlock := by cases A4 <;> rfl
    rw [e0]
    rcases hat with e | e
    · rw [e]; exact hne
    · rw [e]; simp only [size_alloc']; intro e2; injection e2 with e2; omega)
  simpa using this

set_option maxHeartbeats 800000 in
theorem c_l1Valid (A : Option Addr) (n c : Nat) (gs : List Gl) (w : World) (hR : GlsAt w A n c gs) (hok : gs.all Gl.ok = true) (hn : n ≤ 60) :
    Calls Try.prog 84 #[.slice A n c] w fun e w' => e = .returned (.bool true) ∧ Below w.heap.size w w' := by
  have hbd := hR.bd
  have HOK := hide hok
  clear hok
  go_enter Try.func84, Try.ntmps84
  go_wp2
  go_loopw [3] (fun i wr => ∃ k : Nat, k ≤ n ∧ i = .int .i64 k ∧ Below w.heap.size w wr) (fun i _ => n - (intOf i).toNat)
  case atStart => exact ⟨0, Nat.zero_le _, rfl, Below.refl _ _⟩
  case round =>
    obtain ⟨k, hk, rfl, hb⟩ := hrel
    by_cases hlt : k < n
    · obtain ⟨b, off, g, rfl, hbl, hg, h0, h1, h2, h3⟩ := (hR.next hb).at_ hlt
      have hgk := hide (List.all_eq_true.1 (unhide HOK) g (mem_of_get hg))
      clear hg
      go_wp2_with fail
      refine (c_glueValid' g.w g.st g.sh g.od _).mono ?_
      rintro e w1 ⟨rfl, hb1⟩
      have hgb : glueB g.w g.st g.sh g.od = true := unhide hgk
      rw [hgb]
      clear hgb
      go_wp2
      go_roundw
      case rel => exact ⟨k + 1, by omega, by go_num, bnext hb hb1⟩
      case measure => simp [intOf] <;> omega
    · obtain rfl : n = k := by omega
      have hd : decide ((n : Int) ≤ 60) = true := by simp; omega
      go_wp2
      go_ret
      exact ⟨by simp <;> omega, hb⟩
set_option maxRecDepth 100000 in
set_option maxHeartbeats 3200000 in
theorem c_glueTotal' (A : Option Addr) (n c : Nat) (gs : List Gl) (w : World) (hR : GlsAt w A n c gs) (hok : gs.all Gl.ok = true) (hn : n ≤ 60) (G1 : Gl) (HG1 : Hid (G1 = gTot gs)) :
    Calls Try.prog 85 #[.slice A n c] w fun e w' => e = .returned (.agg #[.int .i64 G1.w, .int .i64 G1.st, .int .i64 G1.sh, .int .i64 G1.od]) ∧ Below w.heap.size w w' := by
  have hlen := hR.len
  have hbd := hR.bd
  have HOK := hide hok
  have HLEN := hide hlen
  clear hok hlen
  have hB := bmk (bof w (.cells #[.int .i64 0, .int .i64 0, .int .i64 0, .int .i64 0] 29)) (.cells #[.int .i64 0, .int .i64 0, .int .i64 0, .int .i64 0] 29)
  have q0 := (Blk.new w 29 #[.int .i64 0, .int .i64 0, .int .i64 0, .int .i64 0]).alloc (.cells #[.int .i64 0, .int .i64 0, .int .i64 0, .int .i64 0] 29)
  have q1 := Blk.new (w.alloc (.cells #[.int .i64 0, .int .i64 0, .int .i64 0, .int .i64 0] 29)) 29 #[.int .i64 0, .int .i64 0, .int .i64 0, .int .i64 0]
  simp only [size_alloc'] at q1
  go_enter Try.func85, Try.ntmps85
  go_wp2_with fail
  refine (c_l1Valid A n c gs _ (hR.next hB) (unhide HOK) hn).mono ?_
  rintro e w1 ⟨rfl, hb1⟩
  replace q0 := q0.next hb1
  replace q1 := q1.next hb1
  replace hB := bnext hB hb1
  clear hb1
  go_wp2
  go_loopw [4] (fun i wr => ∃ (k : Nat) (G : Gl), k ≤ n ∧ i = .int .i64 k ∧ Hid (G = gTot (gs.take k)) ∧ Blk wr w.heap.size 29 #[.int .i64 0, .int .i64 0, .int .i64 0, .int .i64 0] ∧ Blk wr (w.heap.size + 1) 29 #[.int .i64 G.w, .int .i64 G.st, .int .i64 G.sh, .int .i64 G.od] ∧ Below w.heap.size w wr) (fun i _ => n - (intOf i).toNat)
  case atStart => exact ⟨0, ⟨0, 0, 0, 0⟩, Nat.zero_le _, rfl, rfl, q0, q1, hB⟩
  case round =>
    clear q0 q1 hB
    obtain ⟨k, G, hk, rfl, hG, q0, q1, hb⟩ := hrel
    have hokk := take_all_ok (unhide HOK) k
    have hsm : G.Small := by rw [unhide hG]; exact small_tot hokk (by simp; omega)
    have cB0 : wr.cell? ⟨w.heap.size + 1, 0, none⟩ = some (.int .i64 G.w) := q1.cell 0
    have cB1 : wr.cell? ⟨w.heap.size + 1, 1, none⟩ = some (.int .i64 G.st) := q1.cell 1
    have cB2 : wr.cell? ⟨w.heap.size + 1, 2, none⟩ = some (.int .i64 G.sh) := q1.cell 2
    have cB3 : wr.cell? ⟨w.heap.size + 1, 3, none⟩ = some (.int .i64 G.od) := q1.cell 3
    by_cases hlt : k < n
    · obtain ⟨b, off, g, rfl, hbl, hg, h0, h1, h2, h3⟩ := (hR.next hb).at_ hlt
      have hgok := List.all_eq_true.1 (unhide HOK) g (mem_of_get hg)
      have hgs := Gl.small_ok hgok
      have H : Hid (gAdd G g = gTot (gs.take (k + 1))) := by
        show _ = _; rw [take_snoc' hg, ← gAdd_tot hokk hgok, ← unhide hG]
      clear hG hg hokk hgok
      go_wp2
      go_region_law
        ((go_simp; go_at_call 92; refine (c_l1Add G g _ hsm hgs).mono ?_; rintro e w2 ⟨rfl, hb2⟩; have u1 := q1.drew.next hb2; have d0 := u1.cell 0; have d1 := u1.cell 1; have d2 := u1.cell 2; have d3 := u1.cell 3; have f0 := u1.frozen 0; have f1 := u1.frozen 1; have f2 := u1.frozen 2; have f3 := u1.frozen 3))
      all_goals
        generalize gAdd G g = G2 at H ⊢
        have v1 := (((u1.set_ 0 (.int .i64 G2.w)).set_ 1 (.int .i64 G2.st)).set_ 2 (.int .i64 G2.sh)).set_ 3 (.int .i64 G2.od)
        have v0 := ((((q0.drew.next hb2).far (p := ⟨w.heap.size + 1, 0, none⟩) (by dsimp only; omega) (.int .i64 G2.w)).far (p := ⟨w.heap.size + 1, 1, none⟩) (by dsimp only; omega) (.int .i64 G2.st)).far (p := ⟨w.heap.size + 1, 2, none⟩) (by dsimp only; omega) (.int .i64 G2.sh)).far (p := ⟨w.heap.size + 1, 3, none⟩) (by dsimp only; omega) (.int .i64 G2.od)
        have hb3 := ((((bnext hb.drew hb2).setCell (p := ⟨w.heap.size + 1, 0, none⟩) (by dsimp only; omega) (.int .i64 G2.w)).setCell (p := ⟨w.heap.size + 1, 1, none⟩) (by dsimp only; omega) (.int .i64 G2.st)).setCell (p := ⟨w.heap.size + 1, 2, none⟩) (by dsimp only; omega) (.int .i64 G2.sh)).setCell (p := ⟨w.heap.size + 1, 3, none⟩) (by dsimp only; omega) (.int .i64 G2.od)
        clear u1 d0 d1 d2 d3 f0 f1 f2 f3 q0 q1 hb2 hb cB0 cB1 cB2 cB3
        go_wp2
        go_roundw
        case rel => exact ⟨k + 1, G2, by omega, by go_num, H, v0, v1, hb3⟩
        case measure => simp [intOf] <;> omega
    · obtain rfl : n = k := by omega
      have H : Hid (G = G1) := by
        show _ = _; rw [unhide HG1, unhide hG, List.take_of_length_le (by rw [unhide HLEN]; exact Nat.le_refl _)]
      obtain rfl := unhide H
      have p0 := q0.cell 0
      have p1 := q0.cell 1
      have p2 := q0.cell 2
      have p3 := q0.cell 3
      have z0 := q0.frozen 0
      have z1 := q0.frozen 1
      have z2 := q0.frozen 2
      have z3 := q0.frozen 3
      clear hG H HG1 q0 q1 hokk
      go_wp2
      refine bodyPost_ret (v := .agg #[.int .i64 G.w, .int .i64 G.st, .int .i64 G.sh, .int .i64 G.od]) (by simp [results, Try.results85, go_sem, *]) rfl ⟨rfl, ?_⟩
      repeat (refine Below.setCell ?_ (by dsimp only; omega) _)
      exact hb
end Go.Proofs.Ytlklkloadefihaa
