/- The reference's boxes and glues of a line: contract; appends that say where the new slice lies. No condition. -/
import Derived.Test.YtadcbigioldejaaPlaceP
import Derived.Test.YtadcbigioldejaaSetS
import Derived.Test.YtadcbigioldejaaLine6
namespace Go.Proofs.Ytadcbigioldejaa
open Go.RowKit
set_option linter.unusedVariables false

theorem ap_push {w : World} {B e sz n : Nat} {v o o' : Value} {xs : List Value} (h : w.ownsRow B e sz v n xs) (ap : v.ownBlock = none ∨ v.ownBlock ≠ o.ownBlock) (hl : ∀ g, g < w.heap.size → o.ownBlock ≠ some g → o'.ownBlock ≠ some g) : v.ownBlock = none ∨ v.ownBlock ≠ o'.ownBlock := by
  cases hv : v.ownBlock with
  | none => exact .inl rfl
  | some g =>
    refine .inr (fun e => ?_)
    rw [hv] at ap
    rcases ap with h0 | h0
    · cases h0
    · exact hl g (h.lt g hv).2 (fun e2 => h0 e2.symm) e.symm
theorem wpList_push_GL {ops : Array Oper} {rest : List Oper} {o : Oper} {a : Act} {Q : Exit → Act → World → Prop} {B : Nat} {w : World} {s x : Operand} {A : Option Addr} {c : Nat} {gs : List Gl} {H : Nat} (g : Gl) (hw : o.guard = none)
    (ho : o.op = .call { callee := .builtin .append, args := #[s, x], argTypes := #[69, 69] }) (hown : OwnG w B A c gs) (hs : a.eval s = .slice A gs.length c) (hx : a.eval x = .slice (some ⟨H, 0, none⟩) 1 1) (hH : w.heap.size = H) (hlen : gs.length ≤ 1000000000) (hB : B ≤ w.heap.size)
    (h : ∀ A' c' w', OwnG w' B A' c' (gs ++ [g]) → (w.alloc (.cells #[.int .i64 g.w, .int .i64 g.st, .int .i64 g.sh, .int .i64 g.od] 49)).grownBy w' (Value.slice A gs.length c).ownBlock → OwnG (w.alloc (.cells #[.int .i64 g.w, .int .i64 g.st, .int .i64 g.sh, .int .i64 g.od] 49)) B A c gs →
      (∀ g m, g < w.heap.size → (Value.slice A gs.length c).ownBlock ≠ some g → (Value.slice A' m c').ownBlock ≠ some g) → wpList Try.prog ops Q rest (a.put o.dst (.slice A' (gs.length + 1) c')) w') :
    wpList Try.prog ops Q (o :: rest) a (w.alloc (.cells #[.int .i64 g.w, .int .i64 g.st, .int .i64 g.sh, .int .i64 g.od] 49)) := by
  subst hH
  obtain ⟨i0, hi, hz0, hz1, hz2⟩ := info_parts infoGlue
  have ho2 : OwnG (w.alloc (.cells #[.int .i64 g.w, .int .i64 g.st, .int .i64 g.sh, .int .i64 g.od] 49)) B A c gs := World.ownsRow.alloc hown _
  refine wpList_append_own_at _ hw s x 69 ho B 49 i0 _ 4 32 Try.underlying69 hi hz0 hz1 hz2 rfl (by decide) _ _ _ hs ho2 ⟨w.heap.size, 0, none⟩ 1 1 [.int .i64 g.w, .int .i64 g.st, .int .i64 g.sh, .int .i64 g.od] hx rfl (cells_new_gls _ _ _ _ _ _) (one_gls g) (by unfold maxLen; omega) (by omega) (by simp; omega) ?_
  intro v3 w3 hown3 hg3 _ hat
  have hown4 : w3.ownsRow B 49 4 v3 (gs ++ [g]).length ((gs ++ [g]).flatMap Gl.cells) := by rw [flat_snoc_gls]; simpa using hown3
  obtain ⟨A4, c4, rfl, hown5⟩ := OwnG.of hown4
  have := h A4 c4 w3 hown5 hg3 ho2 (fun q m hq hne => by
    have e0 : (Value.slice A4 m c4).ownBlock = (Value.slice A4 (gs ++ [g]).length c4).ownBlock := by cases A4 <;> rfl
    rw [e0]
    rcases hat with e | e
    · rw [e]; exact hne
    · rw [e]; simp only [size_alloc']; intro e2; injection e2 with e2; omega)
  simpa using this
theorem wpList_push_PL {ops : Array Oper} {rest : List Oper} {o : Oper} {a : Act} {Q : Exit → Act → World → Prop} {B : Nat} {w : World} {s x : Operand} {A : Option Addr} {c : Nat} {gs : List Placed} {H : Nat} (g : Placed) (hw : o.guard = none)
    (ho : o.op = .call { callee := .builtin .append, args := #[s, x], argTypes := #[41, 41] }) (hown : OwnP w B A c gs) (hs : a.eval s = .slice A gs.length c) (hx : a.eval x = .slice (some ⟨H, 0, none⟩) 1 1) (hH : w.heap.size = H) (hlen : gs.length ≤ 1000000000) (hB : B ≤ w.heap.size)
    (h : ∀ A' c' w', OwnP w' B A' c' (gs ++ [g]) → (w.alloc (.cells #[.int .i64 g.at_, .int .i64 g.place] 73)).grownBy w' (Value.slice A gs.length c).ownBlock → OwnP (w.alloc (.cells #[.int .i64 g.at_, .int .i64 g.place] 73)) B A c gs →
      (∀ g m, g < w.heap.size → (Value.slice A gs.length c).ownBlock ≠ some g → (Value.slice A' m c').ownBlock ≠ some g) → wpList Try.prog ops Q rest (a.put o.dst (.slice A' (gs.length + 1) c')) w') :
    wpList Try.prog ops Q (o :: rest) a (w.alloc (.cells #[.int .i64 g.at_, .int .i64 g.place] 73)) := by
  subst hH
  obtain ⟨i0, hi, hz0, hz1, hz2⟩ := info_parts infoPlaced
  have ho2 : OwnP (w.alloc (.cells #[.int .i64 g.at_, .int .i64 g.place] 73)) B A c gs := World.ownsRow.alloc hown _
  refine wpList_append_own_at _ hw s x 41 ho B 73 i0 _ 2 16 Try.underlying41 hi hz0 hz1 hz2 rfl (by decide) _ _ _ hs ho2 ⟨w.heap.size, 0, none⟩ 1 1 [.int .i64 g.at_, .int .i64 g.place] hx rfl (cells_new_placed _ _ _ _) (one_placed g) (by unfold maxLen; omega) (by omega) (by simp; omega) ?_
  intro v3 w3 hown3 hg3 _ hat
  have hown4 : w3.ownsRow B 73 2 v3 (gs ++ [g]).length ((gs ++ [g]).flatMap Placed.cells) := by rw [flat_snoc_placed]; simpa using hown3
  obtain ⟨A4, c4, rfl, hown5⟩ := OwnP.of hown4
  have := h A4 c4 w3 hown5 hg3 ho2 (fun q m hq hne => by
    have e0 : (Value.slice A4 m c4).ownBlock = (Value.slice A4 (gs ++ [g]).length c4).ownBlock := by cases A4 <;> rfl
    rw [e0]
    rcases hat with e | e
    · rw [e]; exact hne
    · rw [e]; simp only [size_alloc']; intro e2; injection e2 with e2; omega)
  simpa using this

set_option maxRecDepth 100000 in
set_option maxHeartbeats 1600000 in
theorem c_lineItems' (A : Option Addr) (n c : Nat) (rs : List Item) (after to : Int) (w : World) (hR : ItemsAt w A n c rs) :
    Calls Try.prog 47 #[.slice A n c, .int .i64 after, .int .i64 to] w fun e w' => ∃ A' c', e = .returned (.slice A' (lineIts rs after to).length c') ∧ OwnI w' w.heap.size A' c' (lineIts rs after to) ∧ Below w.heap.size w w' := by
  have hlen := hR.len
  have hbd := hR.bd
  have HLEN := hide hlen
  clear hlen
  have O0 := OwnI.fresh w
  have hb0 := bof w (.cells #[] 3)
  obtain ⟨G, HG⟩ : ∃ G, Hid (glOf rs after to = G) := ⟨_, rfl⟩
  go_enter Try.func47, Try.ntmps47
  go_wp2_with fail
  refine (c_lineGlue' A n c rs after to _ (hR.next hb0)).mono ?_
  rw [unhide HG]
  rintro e w1 ⟨rfl, hb1⟩
  have O1 : OwnI _ w.heap.size (some ⟨w.heap.size, 0, none⟩) 0 [] := World.ownsRow.alloc (O0.next hb1) (.cells #[.int .i64 G.w, .int .i64 G.st, .int .i64 G.sh, .int .i64 G.od] 49)
  have hb2 := bmk (bnext hb0 hb1) (.cells #[.int .i64 G.w, .int .i64 G.st, .int .i64 G.sh, .int .i64 G.od] 49)
  clear hb0 hb1 O0 HG
  cases hk : okL rs after to
  · have H := hide (lineIts_not hk)
    clear hk
    go_wp2
    go_ret
    rw [unhide H]
    exact ⟨_, 0, rfl, O1, hb2⟩
  · obtain ⟨hv, hl⟩ := okL_iff.1 hk
    have HVAL := hide (itemsValid_iff.1 hv).1
    have hn60 := (itemsValid_iff.1 hv).2
    rw [unhide HLEN] at hn60
    have hb := lineOk_bd hl
    rw [unhide HLEN] at hb
    obtain ⟨k0, hk0⟩ := Int.eq_ofNat_of_zero_le (show 0 ≤ after + 1 by omega)
    obtain ⟨m, rfl⟩ := Int.eq_ofNat_of_zero_le (show 0 ≤ to by omega)
    have hmn : m < n := by omega
    obtain ⟨hs1, hs2, hs3⟩ := lineOk_start hl k0 m hk0 rfl
    have HI := hide (lineIts_ok hk k0 m hk0 rfl)
    obtain ⟨s, HS⟩ : ∃ s, Hid (startOf rs k0 = s) := ⟨_, rfl⟩
    rw [unhide HS] at HI hs1
    obtain rfl : after = (k0 : Int) - 1 := by omega
    clear hk hv hl hb hk0
    go_wp2_with fail
    refine (c_l5Start A n c rs _ k0 (by omega) (by omega) _ (hR.next hb2) (unhide HVAL)).mono ?_
    rw [unhide HS]
    rintro e w3 ⟨rfl, hb3⟩
    replace O1 := OwnI.next O1 hb3
    replace hb2 := bnext hb2 hb3
    clear hb3 HS
    go_wp2
    go_loopw [7, 10] (fun o i wr => ∃ (q : Nat) (A' : Option Addr) (c' : Nat) (xs : List Int), s ≤ q ∧ q ≤ m ∧ i = .int .i64 q ∧ Hid (xs = ints (idxs rs s q)) ∧ o = .slice A' xs.length c' ∧ OwnI wr w.heap.size A' c' xs ∧ Below w.heap.size w wr) (fun _ i _ => m - (intOf i).toNat)
    case atStart => exact ⟨s, _, 0, [], Nat.le_refl _, hs1, rfl, by show _ = _; rw [idxs_start]; rfl, rfl, O1, hb2⟩
    case round =>
      clear hb2 O1
      obtain ⟨q, A', c', xs, hq1, hq2, rfl, hxs, rfl, hown, hb⟩ := hrel
      have hsz := hb.size
      have hxl : xs.length ≤ 1000000 := by
        rw [unhide hxs, ints_len]; have := idxs_len rs s q; omega
      by_cases hlt : q < m
      · obtain ⟨b, off, r, rfl, hbl, hr, q0, q1, q2, q3, q4, q5, q6⟩ := (hR.next hb).at_ (k := q) (by omega)
        by_cases h3 : r.kind = 3
        · have H : Hid (xs = ints (idxs rs s (q + 1))) := by show _ = _; rw [idxs_skip (by rw [itAt_of hr]; exact h3)]; exact unhide hxs
          have q0' : wr.cell? ⟨b, off + q * 7, none⟩ = some (.int .i64 3) := by rw [q0, h3]
          clear hxs hr h3 q0
          go_wp2
          go_roundw
          case rel => exact ⟨q + 1, A', c', xs, by omega, by omega, by go_num, H, rfl, hown, hb⟩
          case measure => simp [intOf]; omega
        · have H : Hid (xs ++ [(q : Int)] = ints (idxs rs s (q + 1))) := by
            show _ = _; rw [idxs_take hq1 (by rw [itAt_of hr]; exact h3), unhide hxs]; simp [ints]
          have h3' : (r.kind != 3) = true := by simpa using h3
          clear hxs hr h3
          go_wp2_with (at_builtin; refine wpList_push_N (q : Int) rfl rfl hown rfl rfl (by omega) hsz ?_; intro A2 c2 w2 hown2 hg2 ho2)
          go_roundw
          case rel => exact ⟨q + 1, A2, c2, _, by omega, by omega, by go_num, H, by simp, hown2, b_own (bmk hb _) ho2 (Nat.le_refl _) hg2⟩
          case measure => simp [intOf]; omega
      · obtain rfl : q = m := by omega
        have HX : Hid (lineIts rs ((k0 : Int) - 1) q = xs) := by show _ = _; rw [unhide HI, ← unhide hxs]
        clear hxs
        go_wp2
        go_ret
        rw [unhide HX]
        exact ⟨_, _, rfl, hown, hb⟩
end Go.Proofs.Ytadcbigioldejaa
