/- The reference's boxes and glues of a line: contract; appends that say where the new slice lies. · SetLine, the reference's: contract. · LineIsFull on both sides: contracts. No condition. -/
import Derived.Test.YtlklkloadefihaaMpl
import Derived.Test.YtlklkloadefihaaSetS
import Derived.Test.YtlklkloadefihaaMli
namespace Go.Proofs.Ytlklkloadefihaa
open Go.RowKit
set_option linter.unusedVariables false

theorem ap_push {w : World} {B e sz n : Nat} {v o o' : Value} {xs : List Value} (h : w.ownsRow B e sz v n xs) (ap : v.ownBlock = none ∨ v.ownBlock ≠ o.ownBlock) (hl : ∀ g, g < w.heap.size → o.ownBlock ≠ some g → o'.ownBlock ≠ some g) : v.ownBlock = none ∨ v.ownBlock ≠ o'.ownBlock := by
  cases hv : v.ownBlock with
  | none => exact .inl rfl
  | some g =>
    refine .inr (fun e => ?_)
    rw [hv] at ap
    rcases ap with h0 | h0
    · cases h0
    · exact hl g (h.lt g hv).2 (fun e2 => h0 e2.symm) e.symm
theorem wpList_push_GL {ops : Array Oper} {rest : List Oper} {o : Oper} {a : Act} {Q : Exit → Act → World → Prop} {B : Nat} {w : World} {s x : Operand} {A : Option Addr} {c : Nat} {gs : List Gl} {H : Nat} (g : Gl) (hw : o.guard = none)
    (ho : o.op = .call { callee := .builtin .append, args := #[s, x], argTypes := #[65, 65] }) (hown : OwnG w B A c gs) (hs : a.eval s = .slice A gs.length c) (hx : a.eval x = .slice (some ⟨H, 0, none⟩) 1 1) (hH : w.heap.size = H) (hlen : gs.length ≤ 1000000000) (hB : B ≤ w.heap.size)
    (h : ∀ A' c' w', OwnG w' B A' c' (gs ++ [g]) → (w.alloc (.cells #[.int .i64 g.w, .int .i64 g.st, .int .i64 g.sh, .int .i64 g.od] 29)).grownBy w' (Value.slice A gs.length c).ownBlock → OwnG (w.alloc (.cells #[.int .i64 g.w, .int .i64 g.st, .int .i64 g.sh, .int .i64 g.od] 29)) B A c gs →
      (∀ g m, g < w.heap.size → (Value.slice A gs.length c).ownBlock ≠ some g → (Value.slice A' m c').ownBlock ≠ some g) → wpList Try.prog ops Q rest (a.put o.dst (.slice A' (gs.length + 1) c')) w') :
    wpList Try.prog ops Q (o :: rest) a (w.alloc (.cells #[.int .i64 g.w, .int .i64 g.st, .int .i64 g.sh, .int .i64 g.od] 29)) := by
  subst hH
  obtain ⟨i0, hi, hz0, hz1, hz2⟩ := info_parts infoGlue
  have ho2 : OwnG (w.alloc (.cells #[.int .i64 g.w, .int .i64 g.st, .int .i64 g.sh, .int .i64 g.od] 29)) B A c gs := World.ownsRow.alloc hown _
  refine wpList_append_own_at _ hw s x 65 ho B 29 i0 _ 4 32 Try.underlying65 hi hz0 hz1 hz2 rfl (by decide) _ _ _ hs ho2 ⟨w.heap.size, 0, none⟩ 1 1 [.int .i64 g.w, .int .i64 g.st, .int .i64 g.sh, .int .i64 g.od] hx rfl (cells_new_gls _ _ _ _ _ _) (one_gls g) (by unfold maxLen; omega) (by omega) (by simp; omega) ?_
  intro v3 w3 hown3 hg3 _ hat
  have hown4 : w3.ownsRow B 29 4 v3 (gs ++ [g]).length ((gs ++ [g]).flatMap Gl.cells) := by rw [flat_snoc_gls]; simpa using hown3
  obtain ⟨A4, c4, rfl, hown5⟩ := OwnG.of hown4
  have := h A4 c4 w3 hown5 hg3 ho2 (fun q m hq hne => by
    have e0 : (Value.slice A4 m c4).ownBlock = (Value.slice A4 (gs ++ [g]).length c4).ownBlock := by cases A4 <;> rfl
    rw [e0]
    rcases hat with e | e
    · rw [e]; exact hne
    · rw [e]; simp only [size_alloc']; intro e2; injection e2 with e2; omega)
  simpa using this
theorem wpList_push_PL {ops : Array Oper} {rest : List Oper} {o : Oper} {a : Act} {Q : Exit → Act → World → Prop} {B : Nat} {w : World} {s x : Operand} {A : Option Addr} {c : Nat} {gs : List Placed} {H : Nat} (g : Placed) (hw : o.guard = none)
    (ho : o.op = .call { callee := .builtin .append, args := #[s, x], argTypes := #[45, 45] }) (hown : OwnP w B A c gs) (hs : a.eval s = .slice A gs.length c) (hx : a.eval x = .slice (some ⟨H, 0, none⟩) 1 1) (hH : w.heap.size = H) (hlen : gs.length ≤ 1000000000) (hB : B ≤ w.heap.size)
    (h : ∀ A' c' w', OwnP w' B A' c' (gs ++ [g]) → (w.alloc (.cells #[.int .i64 g.at_, .int .i64 g.place] 49)).grownBy w' (Value.slice A gs.length c).ownBlock → OwnP (w.alloc (.cells #[.int .i64 g.at_, .int .i64 g.place] 49)) B A c gs →
      (∀ g m, g < w.heap.size → (Value.slice A gs.length c).ownBlock ≠ some g → (Value.slice A' m c').ownBlock ≠ some g) → wpList Try.prog ops Q rest (a.put o.dst (.slice A' (gs.length + 1) c')) w') :
    wpList Try.prog ops Q (o :: rest) a (w.alloc (.cells #[.int .i64 g.at_, .int .i64 g.place] 49)) := by
  subst hH
  obtain ⟨i0, hi, hz0, hz1, hz2⟩ := info_parts infoPlaced
  have ho2 : OwnP (w.alloc (.cells #[.int .i64 g.at_, .int .i64 g.place] 49)) B A c gs := World.ownsRow.alloc hown _
  refine wpList_append_own_at _ hw s x 45 ho B 49 i0 _ 2 16 Try.underlying45 hi hz0 hz1 hz2 rfl (by decide) _ _ _ hs ho2 ⟨w.heap.size, 0, none⟩ 1 1 [.int .i64 g.at_, .int .i64 g.place] hx rfl (cells_new_placed _ _ _ _) (one_placed g) (by unfold maxLen; omega) (by omega) (by simp; omega) ?_
  intro v3 w3 hown3 hg3 _ hat
  have hown4 : w3.ownsRow B 49 2 v3 (gs ++ [g]).length ((gs ++ [g]).flatMap Placed.cells) := by rw [flat_snoc_placed]; simpa using hown3
  obtain ⟨A4, c4, rfl, hown5⟩ := OwnP.of hown4
  have := h A4 c4 w3 hown5 hg3 ho2 (fun q m hq hne => by
    have e0 : (Value.slice A4 m c4).ownBlock = (Value.slice A4 (gs ++ [g]).length c4).ownBlock := by cases A4 <;> rfl
    rw [e0]
    rcases hat with e | e
    · rw [e]; exact hne
    · rw [e]; simp only [size_alloc']; intro e2; injection e2 with e2; omega)
  simpa using this

set_option maxRecDepth 100000 in
set_option maxHeartbeats 1600000 in
theorem c_lineItems' (A : Option Addr) (n c : Nat) (rs : List Item) (after to : Int) (w : World) (hR : ItemsAt w A n c rs) :
    Calls Try.prog 58 #[.slice A n c, .int .i64 after, .int .i64 to] w fun e w' => ∃ A' c', e = .returned (.slice A' (lineIts rs after to).length c') ∧ OwnI w' w.heap.size A' c' (lineIts rs after to) ∧ Below w.heap.size w w' := by
  have hlen := hR.len
  have hbd := hR.bd
  have HLEN := hide hlen
  clear hlen
  have O0 := OwnI.fresh w
  have hb0 := bof w (.cells #[] 3)
  obtain ⟨G, HG⟩ : ∃ G, Hid (glOf rs after to = G) := ⟨_, rfl⟩
  go_enter Try.func58, Try.ntmps58
  go_wp2_with fail
  refine (c_lineGlue' A n c rs after to _ (hR.next hb0)).mono ?_
  rw [unhide HG]
  rintro e w1 ⟨rfl, hb1⟩
  have O1 : OwnI _ w.heap.size (some ⟨w.heap.size, 0, none⟩) 0 [] := World.ownsRow.alloc (O0.next hb1) (.cells #[.int .i64 G.w, .int .i64 G.st, .int .i64 G.sh, .int .i64 G.od] 29)
  have hb2 := bmk (bnext hb0 hb1) (.cells #[.int .i64 G.w, .int .i64 G.st, .int .i64 G.sh, .int .i64 G.od] 29)
  clear hb0 hb1 O0 HG
  cases hk : okL rs after to
  · have H := hide (lineIts_not hk)
    clear hk
    go_wp2
    go_ret
    rw [unhide H]
    exact ⟨_, 0, rfl, O1, hb2⟩
  · obtain ⟨hv, hl⟩ := okL_iff.1 hk
    have HVAL := hide (itemsValid_iff.1 hv).1
    have hn60 := (itemsValid_iff.1 hv).2
    rw [unhide HLEN] at hn60
    have hb := lineOk_bd hl
    rw [unhide HLEN] at hb
    obtain ⟨k0, hk0⟩ := Int.eq_ofNat_of_zero_le (show 0 ≤ after + 1 by omega)
    obtain ⟨m, rfl⟩ := Int.eq_ofNat_of_zero_le (show 0 ≤ to by omega)
    have hmn : m < n := by omega
    obtain ⟨hs1, hs2, hs3⟩ := lineOk_start hl k0 m hk0 rfl
    have HI := hide (lineIts_ok hk k0 m hk0 rfl)
    obtain ⟨s, HS⟩ : ∃ s, Hid (startOf rs k0 = s) := ⟨_, rfl⟩
    rw [unhide HS] at HI hs1
    obtain rfl : after = (k0 : Int) - 1 := by omega
    clear hk hv hl hb hk0
    go_wp2_with fail
    refine (c_l5Start A n c rs _ k0 (by omega) (by omega) _ (hR.next hb2) (unhide HVAL)).mono ?_
    rw [unhide HS]
    rintro e w3 ⟨rfl, hb3⟩
    replace O1 := OwnI.next O1 hb3
    replace hb2 := bnext hb2 hb3
    clear hb3 HS
    go_wp2
    go_loopw [7, 10] (fun o i wr => ∃ (q : Nat) (A' : Option Addr) (c' : Nat) (xs : List Int), s ≤ q ∧ q ≤ m ∧ i = .int .i64 q ∧ Hid (xs = ints (idxs rs s q)) ∧ o = .slice A' xs.length c' ∧ OwnI wr w.heap.size A' c' xs ∧ Below w.heap.size w wr) (fun _ i _ => m - (intOf i).toNat)
    case atStart => exact ⟨s, _, 0, [], Nat.le_refl _, hs1, rfl, by show _ = _; rw [idxs_start]; rfl, rfl, O1, hb2⟩
    case round =>
      clear hb2 O1
      obtain ⟨q, A', c', xs, hq1, hq2, rfl, hxs, rfl, hown, hb⟩ := hrel
      have hsz := hb.size
      have hxl : xs.length ≤ 1000000 := by
        rw [unhide hxs, ints_len]; have := idxs_len rs s q; omega
      by_cases hlt : q < m
      · obtain ⟨b, off, r, rfl, hbl, hr, q0, q1, q2, q3, q4, q5, q6⟩ := (hR.next hb).at_ (k := q) (by omega)
        by_cases h3 : r.kind = 3
        · have H : Hid (xs = ints (idxs rs s (q + 1))) := by show _ = _; rw [idxs_skip (by rw [itAt_of hr]; exact h3)]; exact unhide hxs
          have q0' : wr.cell? ⟨b, off + q * 7, none⟩ = some (.int .i64 3) := by rw [q0, h3]
          clear hxs hr h3 q0
          go_wp2
          go_roundw
          case rel => exact ⟨q + 1, A', c', xs, by omega, by omega, by go_num, H, rfl, hown, hb⟩
          case measure => simp [intOf]; omega
        · have H : Hid (xs ++ [(q : Int)] = ints (idxs rs s (q + 1))) := by
            show _ = _; rw [idxs_take hq1 (by rw [itAt_of hr]; exact h3), unhide hxs]; simp [ints]
          have h3' : (r.kind != 3) = true := by simpa using h3
          clear hxs hr h3
          go_wp2_with (at_builtin; refine wpList_push_N (q : Int) rfl rfl hown rfl rfl (by omega) hsz ?_; intro A2 c2 w2 hown2 hg2 ho2)
          go_roundw
          case rel => exact ⟨q + 1, A2, c2, _, by omega, by omega, by go_num, H, by simp, hown2, b_own (bmk hb _) ho2 (Nat.le_refl _) hg2⟩
          case measure => simp [intOf]; omega
      · obtain rfl : q = m := by omega
        have HX : Hid (lineIts rs ((k0 : Int) - 1) q = xs) := by show _ = _; rw [unhide HI, ← unhide hxs]
        clear hxs
        go_wp2
        go_ret
        rw [unhide HX]
        exact ⟨_, _, rfl, hown, hb⟩
end Go.Proofs.Ytlklkloadefihaa

namespace Go.Proofs.Ytlklkloadefihaa
open Go.RowKit
set_option linter.unusedVariables false

theorem boxW_bd {rs : List Item} {m : Nat} (hv : rs.all itemValid = true) (hm : m ≤ rs.length) : ∀ (l : List Nat), (∀ x ∈ l, x < m) → 0 ≤ boxW rs l ∧ boxW rs l ≤ 1000 * (l.length : Int)
  | [], _ => by simp [boxW]
  | a :: t, h => by
    have h1 := boxW_bd hv hm t fun x hx => h x (List.mem_cons_of_mem _ hx)
    have h2 := Gl.ok_iff.1 (item_gl_ok (itAt_valid hv (show a < rs.length by have := h a (List.mem_cons_self ..); omega)))
    have h3 : 0 ≤ boxOf rs a ∧ boxOf rs a ≤ 1000 := by
      unfold boxOf; split
      · omega
      · exact h2.1
    simp only [boxW, List.map_cons, List.sum_cons, List.length_cons] at h1 ⊢
    omega
theorem IntsAt.cell_ {w : World} {b off n c k : Nat} {xs : List Int} {x : Int} (h : IntsAt w (some ⟨b, off, none⟩) n c xs) (hx : xs[k]? = some x) : w.cell? ⟨b, off + k, none⟩ = some (.int .i64 x) := by
  have hk : k < n := by rw [← h.len]; exact get_lt hx
  obtain ⟨b', off', y, e, _, hy, hc⟩ := h.at_ hk
  cases e
  rw [hx] at hy
  obtain rfl := Option.some.inj hy
  exact hc
set_option maxRecDepth 100000 in
set_option maxHeartbeats 12800000 in
theorem c_setLine' (A : Option Addr) (n c : Nat) (rs : List Item) (after to width : Int) (w : World) (hR : ItemsAt w A n c rs) :
    Calls Try.prog 32 #[.slice A n c, .int .i64 after, .int .i64 to, .int .i64 width] w fun e w' => ∃ A' c', e = .returned (.tuple #[.slice A' (setPs rs after to width).length c', .int .i64 (setX rs after to width), .bool (okS rs after to width)]) ∧ OwnP w' w.heap.size A' c' (setPs rs after to width) ∧ Below w.heap.size w w' := by
  have hlen := hR.len
  have hbd := hR.bd
  have HLEN := hide hlen
  clear hlen
  have P0 := OwnP.fresh w
  have hb0 := bof w (.cells #[] 49)
  obtain ⟨G, HG⟩ : ∃ G, Hid (glOf rs after to = G) := ⟨_, rfl⟩
  go_enter Try.func32, Try.ntmps32
  go_wp2_with fail
  refine (c_lineGlue' A n c rs after to _ (hR.next hb0)).mono ?_
  rw [unhide HG]
  rintro e w0 ⟨rfl, hb1⟩
  have P1 : OwnP _ w.heap.size (some ⟨w.heap.size, 0, none⟩) 0 [] := World.ownsRow.alloc (P0.next hb1) (.cells #[.int .i64 G.w, .int .i64 G.st, .int .i64 G.sh, .int .i64 G.od] 29)
  have hb2 := bmk (bnext hb0 hb1) (.cells #[.int .i64 G.w, .int .i64 G.st, .int .i64 G.sh, .int .i64 G.od] 29)
  clear hb0 hb1 P0 HG
  cases hk : okL rs after to
  case' false =>
    have HK : Hid (okS rs after to width = false) := by show _ = _; rw [okS, hk]; rfl
    have HP := hide (setPs_not (unhide HK))
    clear hk
    go_wp2
    go_ret3
    rw [unhide HK, (unhide HP).1, (unhide HP).2]
    exact ⟨_, 0, rfl, P1, hb2⟩
  case' true =>
    cases hw : inB width 0 1000
    case' false =>
      have HK : Hid (okS rs after to width = false) := by show _ = _; rw [okS, hw]; simp
      have HP := hide (setPs_not (unhide HK))
      clear hk
      go_wp2_with (go_at_call 47; refine (c_l1In _ _ _ _).mono ?_; rintro e w' ⟨rfl, rfl⟩)
      go_ret3
      rw [unhide HK, (unhide HP).1, (unhide HP).2]
      exact ⟨_, 0, rfl, P1, hb2⟩
    case' true =>
      have HK : Hid (okS rs after to width = true) := by show _ = _; rw [okS, hk, hw]; rfl
      obtain ⟨hw0, hw1⟩ := inB_iff.1 hw
      obtain ⟨hv, hl⟩ := okL_iff.1 hk
      have HVAL := hide (itemsValid_iff.1 hv).1
      have hn60 := (itemsValid_iff.1 hv).2
      rw [unhide HLEN] at hn60
      have hb := lineOk_bd hl
      rw [unhide HLEN] at hb
      obtain ⟨k0, hk0⟩ := Int.eq_ofNat_of_zero_le (show 0 ≤ after + 1 by omega)
      obtain ⟨m, rfl⟩ := Int.eq_ofNat_of_zero_le (show 0 ≤ to by omega)
      have hmn : m < n := by omega
      obtain ⟨l, HL⟩ : ∃ l, Hid (lineL rs after m = l) := ⟨_, rfl⟩
      have e1 : (after + 1).toNat = k0 := by omega
      obtain ⟨its, HI⟩ : ∃ its, Hid (lineIts rs after m = its) := ⟨_, rfl⟩
      have HI2 : Hid (its = ints l) := by show _ = _; rw [← unhide HI, lineIts_ok hk k0 m hk0 rfl, ← unhide HL, lineL, e1, Int.toNat_natCast]
      have hll : l.length ≤ 60 := by
        rw [← unhide HL, lineL, Int.toNat_natCast]; have := idxs_len rs (startOf rs (after + 1).toNat) m; omega
      have hil : its.length = l.length := by rw [unhide HI2, ints_len]
      have hil60 : its.length ≤ 60 := by rw [hil]; exact hll
      have hin : ∀ x ∈ l, x < m := fun x hx => by rw [← unhide HL, lineL, Int.toNat_natCast] at hx; exact (idxs_mem hx).2.1
      have HIN := hide hin
      have HIL := hide hil
      have hgok : Hid (∀ k, (glsOf rs (l.take k)).all Gl.ok = true) := by
        show ∀ k, _ = _
        exact fun k => glsOf_ok (unhide HVAL) fun x hx => by have := unhide HIN x (List.mem_of_mem_take hx); rw [unhide HLEN]; omega
      obtain ⟨E, HE⟩ : ∃ E, Hid (endW rs m = E) := ⟨_, rfl⟩
      obtain ⟨b0, off0, r0, e0, hbl0, hr0, d0, d1, d2, d3, d4, d5, d6⟩ := hR.at_ hmn
      subst e0
      have hit0 := itAt_of hr0
      have hr0b : 0 ≤ r0.w ∧ r0.w ≤ 1000 := by
        have := Gl.ok_iff.1 (item_gl_ok (List.all_eq_true.1 (unhide HVAL) r0 (mem_of_get hr0))); exact this.1
      have hEb : 0 ≤ E ∧ E ≤ 1000 := by
        rw [← unhide HE, endW, hit0]; split
        · exact hr0b
        · omega
      have HEK : Hid ((r0.kind = 3 ∧ E = r0.w) ∨ ((r0.kind == 3) = false ∧ E = 0)) := by
        show _ ∨ _
        rw [← unhide HE, endW, hit0]
        by_cases h : r0.kind = 3
        · left; exact ⟨h, if_pos h⟩
        · right; exact ⟨by simpa using h, if_neg h⟩
      have HRES : Hid (setPs rs after m width = (placeGo rs (setWs (glsOf rs l) (max 0 (width - E - boxW rs l))) 0 l).1 ∧ setX rs after m width = (placeGo rs (setWs (glsOf rs l) (max 0 (width - E - boxW rs l))) 0 l).2 + E) := by
        show _ ∧ _
        rw [setPs, setX, if_pos (unhide HK), if_pos (unhide HK), lineWs, unhide HL, Int.toNat_natCast, unhide HE]
        exact ⟨rfl, rfl⟩
      have hbx : ∀ k, 0 ≤ boxW rs (l.take k) ∧ boxW rs (l.take k) ≤ 1000 * (k : Int) := by
        intro k
        have h4 := boxW_bd (unhide HVAL) (show m ≤ rs.length by rw [unhide HLEN]; omega) (l.take k) fun x hx => unhide HIN x (List.mem_of_mem_take hx)
        have h5 : (l.take k).length ≤ k := by simp; omega
        omega
      have HBX := hide hbx
      clear hk hv hl hb hk0 hin hil HL hr0 hit0 hbx e1 d2 d3 d4 d5 d6
      have P2 : OwnP _ w.heap.size (some ⟨w.heap.size, 0, none⟩) 0 [] := World.ownsRow.alloc P1 (.cells #[] 29)
      have hb3 := bmk hb2 (.cells #[] 29)
      go_wp2_with (go_at_call 47; refine (c_l1In _ _ _ _).mono ?_; rintro e w' ⟨rfl, rfl⟩)
      have hlt0 := (World.ownsRow.lt P1 w.heap.size rfl).2
      obtain ⟨wA, HWA⟩ : ∃ x, Hid (x = w0.alloc (.cells #[.int .i64 G.w, .int .i64 G.st, .int .i64 G.sh, .int .i64 G.od] 29)) := ⟨_, rfl⟩
      rw [← unhide HWA] at P1 P2 hb2 hb3 hlt0 ⊢
      have G0 := OwnG.fresh wA
      have hAsz : wA.heap.size = w0.heap.size + 1 := by rw [unhide HWA, size_alloc']
      clear HWA P1 hb2
      refine (c_lineItems' _ n c rs after m _ (hR.next hb3)).mono ?_
      rw [unhide HI]
      rintro e w1 ⟨A1, c1, rfl, I0, hbI⟩
      have aIG := own_apart' G0 I0 (Nat.le_refl _)
      have aIP := own_apart' P2 I0 (Nat.le_refl _)
      replace P2 := P2.next hbI
      replace G0 := G0.next hbI
      have hb1 := bnext hb3 hbI
      have hwA := hbI.size
      rw [size_alloc'] at hwA
      have hsz := hb1.size
      have aPG : (Value.slice (some ⟨w.heap.size, 0, none⟩) 0 0).ownBlock = none ∨ (Value.slice (some ⟨w.heap.size, 0, none⟩) 0 0).ownBlock ≠ (Value.slice (some ⟨wA.heap.size, 0, none⟩) 0 0).ownBlock := by
        right; simp [Value.ownBlock]; omega
      have I1 : OwnI w1 (w.heap.size + 1) A1 c1 its := own_base I0 (by rw [size_alloc']; omega)
      have G1 : OwnG w1 (w.heap.size + 1) (some ⟨wA.heap.size, 0, none⟩) 0 [] := own_base G0 (by omega)
      rw [hAsz] at aIG aPG G1 hwA hlt0
      clear I0 G0 hb3 hbI HI hAsz
      go_wp2
      go_loopw [14, 15, 17] (fun o bv i wr => ∃ (k : Nat) (A' : Option Addr) (c' : Nat) (gs : List Gl) (bx : Int), k ≤ its.length ∧ i = .int .i64 k ∧ bv = .int .i64 bx ∧ Hid (bx = boxW rs (l.take k)) ∧ Hid (gs = glsOf rs (l.take k)) ∧ o = .slice A' gs.length c' ∧ OwnG wr (w.heap.size + 1) A' c' gs ∧ OwnI wr (w.heap.size + 1) A1 c1 its ∧ OwnP wr w.heap.size (some ⟨w.heap.size, 0, none⟩) 0 [] ∧ ((Value.slice A1 its.length c1).ownBlock = none ∨ (Value.slice A1 its.length c1).ownBlock ≠ (Value.slice A' gs.length c').ownBlock) ∧ ((Value.slice (some ⟨w.heap.size, 0, none⟩) 0 0).ownBlock = none ∨ (Value.slice (some ⟨w.heap.size, 0, none⟩) 0 0).ownBlock ≠ (Value.slice A' gs.length c').ownBlock) ∧ Below w.heap.size w wr) (fun _ _ i _ => its.length - (intOf i).toNat)
      case atStart => exact ⟨0, _, 0, [], 0, Nat.zero_le _, rfl, rfl, by show _ = _; simp [boxW], by show _ = _; simp [glsOf], rfl, G1, I1, P2, aIG, aPG, hb1⟩
      case round =>
        clear G1 I1 P2 aIG aPG hb1
        obtain ⟨k, A', c', gs, bx, hk, rfl, rfl, hbx, hgs, rfl, hown, I1, P2, aIG, aPG, hb⟩ := hrel
        have hbs := hb.size
        have hgl : gs.length ≤ 60 := by
          rw [unhide hgs]; have := glsOf_len rs (l.take k); have h2 : (l.take k).length ≤ l.length := by simp; omega
          omega
        have hbk := unhide HBX k
        rw [← unhide hbx] at hbk
        obtain ⟨hbk0, hbk1⟩ := hbk
        have hwsz : w.heap.size + 1 ≤ wr.heap.size := (World.ownsRow.lt P2 w.heap.size rfl).2
        by_cases hlt : k < its.length
        · obtain ⟨b1, off1, x, e1, hbl1, hx, hcx⟩ := I1.at_.at_ hlt
          subst e1
          obtain ⟨j, hj, rfl⟩ := ints_get (by rw [← unhide HI2]; exact hx)
          have hjm := unhide HIN j (mem_of_get hj)
          have hjn : j < n := by omega
          obtain ⟨b, off, r, e2, hbl, hr, h0, h1, h2, h3, h4, h5, h6⟩ := (hR.next hb).at_ hjn
          cases e2
          have hit := itAt_of hr
          have hrb : 0 ≤ r.w ∧ r.w ≤ 1000 := (Gl.ok_iff.1 (item_gl_ok (List.all_eq_true.1 (unhide HVAL) r (mem_of_get hr)))).1
          obtain ⟨hrb0, hrb1⟩ := hrb
          by_cases hk2 : r.kind = 2
          · have H1 : Hid (bx = boxW rs (l.take (k + 1))) := by show _ = _; rw [boxW_snoc hj, boxOf, hit, if_pos hk2, unhide hbx]; omega
            have H2 : Hid (gs ++ [r.gl] = glsOf rs (l.take (k + 1))) := by show _ = _; rw [glsOf_snoc hj, hit, if_pos hk2, unhide hgs]
            have h0' := h0.trans (by rw [hk2] : _ = some (Value.int .i64 2))
            clear hbx hgs hr hj hx hit hk2 h0
            go_wp2_with (at_builtin; refine wpList_push_GL r.gl rfl rfl hown rfl rfl (by first | rfl | simp) (by omega) (by omega) ?_; intro A2 c2 w2 hown2 hg2 ho2 hloc)
            have aI2 := ap_push I1 aIG (o' := Value.slice A2 (gs ++ [r.gl]).length c2) (fun g hg hne => hloc g _ hg hne)
            have aP2 := ap_push P2 aPG (o' := Value.slice A2 (gs ++ [r.gl]).length c2) (fun g hg hne => hloc g _ hg hne)
            have I2 : OwnI w2 (w.heap.size + 1) _ c1 its := World.ownsRow.kept (World.ownsRow.alloc I1 _) hg2 aIG
            have P3 : OwnP w2 w.heap.size (some ⟨w.heap.size, 0, none⟩) 0 [] := World.ownsRow.kept (World.ownsRow.alloc P2 _) hg2 aPG
            have hb9 := b_own (bmk hb _) ho2 (Nat.le_succ _) hg2
            clear I1 P2 aIG aPG hloc hg2 ho2
            go_roundw
            case rel => exact ⟨k + 1, A2, c2, _, bx, by omega, by go_num, rfl, H1, H2, by simp, hown2, I2, P3, aI2, aP2, hb9⟩
            case measure => simp [intOf]; omega
          · have H1 : Hid (bx + r.w = boxW rs (l.take (k + 1))) := by show _ = _; rw [boxW_snoc hj, boxOf, hit, if_neg hk2, unhide hbx]
            have H2 : Hid (gs = glsOf rs (l.take (k + 1))) := by show _ = _; rw [glsOf_snoc hj, hit, if_neg hk2, List.append_nil]; exact unhide hgs
            have h0' : (r.kind == 2) = false := by simpa using hk2
            clear hbx hgs hr hj hx hit hk2
            go_wp2
            go_roundw
            case rel => exact ⟨k + 1, A', c', gs, bx + r.w, by omega, by go_num, rfl, H1, H2, rfl, hown, I1, P2, aIG, aPG, hb⟩
            case measure => simp [intOf]; omega
        · obtain rfl : its.length = k := by omega
          have hfull : l.take its.length = l := by rw [unhide HIL]; exact List.take_length
          rw [hfull] at hbx hgs
          have hgo := unhide hgok l.length
          rw [List.take_length, ← unhide hgs] at hgo
          have HGO := hide hgo
          obtain ⟨M, HM⟩ : ∃ M, Hid (M = max 0 (width - E - bx)) := ⟨_, rfl⟩
          have hMb : 0 ≤ M ∧ M ≤ 60000 := by rw [unhide HM]; omega
          have HR2 : Hid (setPs rs after m width = (placeGo rs (setWs gs M) 0 l).1 ∧ setX rs after m width = (placeGo rs (setWs gs M) 0 l).2 + E) := by
            show _ ∧ _; rw [(unhide HRES).1, (unhide HRES).2, unhide HM, unhide hbx, unhide hgs]; exact ⟨rfl, rfl⟩
          have hwsb := hide (setWs_bd hgo hgl ⟨hMb.1, by omega⟩)
          have hwsl : Hid (0 + (glsOf rs (l.drop 0)).length = (setWs gs M).length) := by show _ = _; rw [setWs_len, unhide hgs]; simp
          have aPI : (Value.slice A1 its.length c1).ownBlock = none ∨ (Value.slice A1 its.length c1).ownBlock ≠ (Value.slice (some ⟨w.heap.size, 0, none⟩) 0 0).ownBlock := by
            cases hv : (Value.slice A1 its.length c1).ownBlock with
            | none => exact .inl rfl
            | some g => right; have := (World.ownsRow.lt I1 g hv).1; intro e; simp [Value.ownBlock] at e; omega
          clear hfull hgo HRES hbx hgs aIG aPG
          have d0' := (hb.cell (p := ⟨b0, off0 + m * 7, none⟩) hbl0).trans d0
          have d1' := (hb.cell (p := ⟨b0, off0 + m * 7 + 1, none⟩) hbl0).trans d1
          have hbl0' : b0 < wr.heap.size := Nat.lt_of_lt_of_le hbl0 hbs
          have hek := unhide HEK
          rcases hek with ⟨hk3, hE⟩ | ⟨hk3, hE⟩
          case' inl =>
            have d0'' := d0'.trans (by rw [hk3] : _ = some (Value.int .i64 3))
            have HM2 : Hid (max 0 (width - (bx + r0.w)) = M) := by show _ = _; rw [unhide HM, hE]; congr 1; omega
            have hrE : r0.w = E := hE.symm
            have hr0 : 0 ≤ r0.w ∧ r0.w ≤ 1000 := by omega
            have HRE := hide hrE
            obtain ⟨hr00, hr01⟩ := hr0
            clear hrE hE hk3 d0'
            go_wp2_with (refine wpList_max rfl rfl rfl rfl ?_)
          case' inr =>
            have HM2 : Hid (max 0 (width - bx) = M) := by show _ = _; rw [unhide HM, hE]; congr 1; omega
            have HRE := hide hE
            clear hE
            go_wp2_with (refine wpList_max rfl rfl rfl rfl ?_)
          all_goals
            rw [unhide HM2]
            refine (c_setGlues' A' gs.length c' gs M _ hown.at_ (unhide HGO) hgl hMb).mono ?_
            rintro e w3 ⟨A3, c3, ok3, rfl, O3, hb3⟩
            have aPW : (Value.slice A3 (setWs gs M).length c3).ownBlock = none ∨ (Value.slice A3 (setWs gs M).length c3).ownBlock ≠ (Value.slice (some ⟨w.heap.size, 0, none⟩) 0 0).ownBlock := by
              cases hv : (Value.slice A3 (setWs gs M).length c3).ownBlock with
              | none => exact .inl rfl
              | some g => right; have := (World.ownsRow.lt O3 g hv).1; intro e; simp [Value.ownBlock] at e; omega
            have I3 := I1.next hb3
            have P3 := P2.next hb3
            have hbB := bnext hb hb3
            have O4 : OwnI w3 (w.heap.size + 1) A3 c3 (setWs gs M) := own_base O3 hwsz
            obtain ⟨ws0, HW0⟩ : ∃ ws, Hid (setWs gs M = ws) := ⟨_, rfl⟩
            rw [unhide HW0] at O4 aPW HR2 hwsb hwsl ⊢
            obtain ⟨R, HRR⟩ : ∃ R, Hid (R = placeGo rs ws0 0 l) := ⟨_, rfl⟩
            rw [← unhide HRR] at HR2
            clear HW0 O3 hb3 hb I1 P2 hown HM HM2
            go_wp2
            go_loopw [11, 20, 21, 22] (fun o xv qv i wr => ∃ (k q : Nat) (Ao : Option Addr) (co : Nat) (acc : List Placed) (x : Int), k ≤ its.length ∧ i = .int .i64 k ∧ qv = .int .i64 q ∧ q ≤ k ∧ o = .slice Ao acc.length co ∧ acc.length ≤ k ∧ xv = .int .i64 x ∧ -20000001000 * (k : Int) ≤ x ∧ x ≤ 20000001000 * (k : Int) ∧ Hid (q + (glsOf rs (l.drop k)).length = ws0.length) ∧ Hid (R = (acc ++ (placeGo rs (ws0.drop q) x (l.drop k)).1, (placeGo rs (ws0.drop q) x (l.drop k)).2)) ∧ OwnP wr w.heap.size Ao co acc ∧ OwnI wr (w.heap.size + 1) A1 c1 its ∧ OwnI wr (w.heap.size + 1) A3 c3 ws0 ∧ ((Value.slice A1 its.length c1).ownBlock = none ∨ (Value.slice A1 its.length c1).ownBlock ≠ (Value.slice Ao acc.length co).ownBlock) ∧ ((Value.slice A3 ws0.length c3).ownBlock = none ∨ (Value.slice A3 ws0.length c3).ownBlock ≠ (Value.slice Ao acc.length co).ownBlock) ∧ Below w.heap.size w wr) (fun _ _ _ i _ => its.length - (intOf i).toNat)
            case atStart => exact ⟨0, 0, _, 0, [], 0, Nat.zero_le _, rfl, rfl, Nat.le_refl _, rfl, Nat.le_refl _, rfl, by omega, by omega, hwsl, by show _ = _; rw [unhide HRR]; simp, P3, I3, O4, aPI, aPW, hbB⟩
            case round =>
              clear O4 hwsl HRR P3 I3 aPI aPW hbB d1' hbs
              obtain ⟨k, q, Ao, co, acc, x, hk, rfl, rfl, hqk, rfl, hac, rfl, hx0, hx1, hwl, hR2, hown, I1, O1, aPI, aPW, hb⟩ := hrel
              have hbs := hb.size
              by_cases hlt : k < its.length
              · obtain ⟨b1, off1, x1, e1, hbl1, hx, hcx⟩ := I1.at_.at_ hlt
                subst e1
                obtain ⟨j, hj, rfl⟩ := ints_get (by rw [← unhide HI2]; exact hx)
                have hjm := unhide HIN j (mem_of_get hj)
                have hjn : j < n := by omega
                obtain ⟨b, off, r, e2, hblW, hr, h0, h1, h2, h3, h4, h5, h6⟩ := hR.at_ hjn
                cases e2
                have hit := itAt_of hr
                have hrb : 0 ≤ r.w ∧ r.w ≤ 1000 := (Gl.ok_iff.1 (item_gl_ok (List.all_eq_true.1 (unhide HVAL) r (mem_of_get hr)))).1
                obtain ⟨hrb0, hrb1⟩ := hrb
                have hdl := glsOf_drop (rs := rs) hj
                have hblR := Nat.lt_of_lt_of_le hblW hbs
                have k0 := (hb.cell hblW).trans h0
                by_cases hk2 : r.kind = 2
                · rw [hit, if_pos hk2] at hdl
                  have hq : q < ws0.length := by have := unhide hwl; omega
                  obtain ⟨bw, offw, y, e3, hblw, hy, hcw⟩ := O1.at_.at_ hq
                  subst e3
                  have hyb := unhide hwsb y (mem_of_get hy)
                  have hwl2 : Hid (q + 1 + (glsOf rs (l.drop (k + 1))).length = ws0.length) := by show _ = _; have := unhide hwl; omega
                  have hR2' := unhide hR2
                  rw [drop_get hy] at hR2'
                  have hR3 := hide (place_glue hj (by rw [hit]; exact hk2) hR2')
                  have k0' := k0.trans (by rw [hk2] : _ = some (Value.int .i64 2))
                  obtain ⟨hyb0, hyb1⟩ := hyb
                  clear hwl hR2 hr hj hx hit hk2 h0 hdl k0 hR2' hy h1
                  go_wp2
                  go_roundw
                  case rel => exact ⟨k + 1, q + 1, Ao, co, acc, x + y, by omega, by go_num, by go_num, by omega, rfl, by omega, rfl, by omega, by omega, hwl2, hR3, hown, I1, O1, aPI, aPW, hb⟩
                  case measure => simp [intOf]; omega
                · rw [hit, if_neg hk2] at hdl
                  have hwl2 : Hid (q + (glsOf rs (l.drop (k + 1))).length = ws0.length) := by show _ = _; have := unhide hwl; omega
                  have hR3 := place_box hj (by rw [hit]; exact hk2) (unhide hR2)
                  rw [hit] at hR3
                  have HR3 := hide hR3
                  have HJX := hide hx
                  have k0' : (r.kind == 2) = false := by simpa using hk2
                  clear hwl hR2 hr hj hx hit hk2 hdl hR3 h0
                  go_wp2_with (at_builtin; refine wpList_push_PL ⟨(j : Int), x⟩ rfl rfl hown rfl rfl (by first | rfl | simp) (by omega) (by omega) ?_; intro A4 c4 w4 hown4 hg4 ho4 hloc; have hb9 := b_own (bmk hb (.cells #[.int .i64 (j : Int), .int .i64 x] 49)) ho4 (Nat.le_refl _) hg4; have I2 : OwnI w4 (w.heap.size + 1) _ c1 its := World.ownsRow.kept (World.ownsRow.alloc I1 _) hg4 aPI; have hcx' := IntsAt.cell_ I2.at_ (unhide HJX); have h1' := (hb9.cell hblW).trans h1; have hblR4 := Nat.lt_of_lt_of_le hblW hb9.size)
                  have aI2 := ap_push I1 aPI (o' := Value.slice A4 (acc ++ [(⟨(j : Int), x⟩ : Placed)]).length c4) (fun g hg hne => hloc g _ hg hne)
                  have aW2 := ap_push O1 aPW (o' := Value.slice A4 (acc ++ [(⟨(j : Int), x⟩ : Placed)]).length c4) (fun g hg hne => hloc g _ hg hne)
                  have O2 : OwnI w4 (w.heap.size + 1) A3 c3 ws0 := World.ownsRow.kept (World.ownsRow.alloc O1 _) hg4 aPW
                  clear I1 O1 aPI aPW hloc hg4 ho4
                  go_roundw
                  case rel => exact ⟨k + 1, q, A4, c4, _, x + r.w, by omega, by go_num, rfl, by omega, by simp, by simp; omega, rfl, by omega, by omega, hwl2, HR3, hown4, I2, O2, aI2, aW2, hb9⟩
                  case measure => simp [intOf]; omega
              · obtain rfl : its.length = k := by omega
                have hR3 := place_end (rs := rs) (by rw [unhide HIL]; exact Nat.le_refl _) (unhide hR2)
                have hxE : x + E = setX rs after m width := by rw [(unhide HR2).2, hR3]
                have hpE : setPs rs after m width = acc := by rw [(unhide HR2).1, hR3]
                have HX := hide hxE
                have HPE := hide hpE
                have k0 := (hb.cell hbl0).trans d0
                have k1 := (hb.cell hbl0).trans d1
                have hblR := Nat.lt_of_lt_of_le hbl0 hbs
                have hek := unhide HEK
                clear hxE hpE hR3 hR2
                rcases hek with ⟨hk3, hE3⟩ | ⟨hk3, hE3⟩
                · have k0' := k0.trans (by rw [hk3] : _ = some (Value.int .i64 3))
                  have HE3 := hide hE3
                  clear hE3 hk3 k0
                  go_wp2
                  go_ret3
                  rw [unhide HPE, ← unhide HX, unhide HK, unhide HE3]
                  exact ⟨_, _, rfl, hown, hb⟩
                · have HE3 := hide hE3
                  clear hE3
                  go_wp2
                  go_ret3
                  rw [unhide HPE, ← unhide HX, unhide HK, unhide HE3]
                  exact ⟨_, _, by simp, hown, hb⟩
end Go.Proofs.Ytlklkloadefihaa

namespace Go.Proofs.Ytlklkloadefihaa
open Go.RowKit
set_option linter.unusedVariables false

def isFull (rs : List Item) (after to width : Int) : Bool := okS rs after to width && decide (setX rs after to width = width)
set_option maxHeartbeats 800000 in
theorem c_lineIsFull (A : Option Addr) (n c : Nat) (rs : List Item) (after to width : Int) (w : World) (hR : ItemsAt w A n c rs) :
    Calls Try.prog 23 #[.slice A n c, .int .i64 after, .int .i64 to, .int .i64 width] w fun e w' => e = .returned (.bool (isFull rs after to width)) ∧ Below w.heap.size w w' := by
  obtain ⟨ps, HP⟩ : ∃ ps, Hid (setPs rs after to width = ps) := ⟨_, rfl⟩
  obtain ⟨x, HX⟩ : ∃ x, Hid (setX rs after to width = x) := ⟨_, rfl⟩
  obtain ⟨ok, HK⟩ : ∃ ok, Hid (okS rs after to width = ok) := ⟨_, rfl⟩
  have H : Hid (isFull rs after to width = (ok && decide (x = width))) := by show _ = _; rw [isFull, unhide HX, unhide HK]
  go_enter Try.func23, Try.ntmps23
  go_wp2_with fail
  refine (c_setLine A n c rs after to width _ hR).mono ?_
  rw [unhide HP, unhide HX, unhide HK]
  rintro e w1 ⟨A1, c1, rfl, _, hb⟩
  clear HP HX HK
  cases ok
  · go_wp2
    go_ret
    rw [unhide H]
    exact ⟨rfl, hb⟩
  · by_cases hx : x = width
    · have hx' : (x == width) = true := by simpa using hx
      go_wp2
      go_ret
      rw [unhide H]
      exact ⟨by simp [*], hb⟩
    · have hx' : (x == width) = false := by simpa using hx
      go_wp2
      go_ret
      rw [unhide H]
      exact ⟨by simp [*], hb⟩
set_option maxHeartbeats 800000 in
theorem c_lineIsFull' (A : Option Addr) (n c : Nat) (rs : List Item) (after to width : Int) (w : World) (hR : ItemsAt w A n c rs) :
    Calls Try.prog 24 #[.slice A n c, .int .i64 after, .int .i64 to, .int .i64 width] w fun e w' => e = .returned (.bool (isFull rs after to width)) ∧ Below w.heap.size w w' := by
  obtain ⟨ps, HP⟩ : ∃ ps, Hid (setPs rs after to width = ps) := ⟨_, rfl⟩
  obtain ⟨x, HX⟩ : ∃ x, Hid (setX rs after to width = x) := ⟨_, rfl⟩
  obtain ⟨ok, HK⟩ : ∃ ok, Hid (okS rs after to width = ok) := ⟨_, rfl⟩
  have H : Hid (isFull rs after to width = (ok && decide (x = width))) := by show _ = _; rw [isFull, unhide HX, unhide HK]
  go_enter Try.func24, Try.ntmps24
  go_wp2_with fail
  refine (c_setLine' A n c rs after to width _ hR).mono ?_
  rw [unhide HP, unhide HX, unhide HK]
  rintro e w1 ⟨A1, c1, rfl, _, hb⟩
  clear HP HX HK
  cases ok
  · go_wp2
    go_ret
    rw [unhide H]
    exact ⟨rfl, hb⟩
  · by_cases hx : x = width
    · have hx' : (x == width) = true := by simpa using hx
      go_wp2
      go_ret
      rw [unhide H]
      exact ⟨by simp [*], hb⟩
    · have hx' : (x == width) = false := by simpa using hx
      go_wp2
      go_ret
      rw [unhide H]
      exact ⟨by simp [*], hb⟩
end Go.Proofs.Ytlklkloadefihaa
