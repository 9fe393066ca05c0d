/- The walk of the law FnTableWidths: for every code it returns true and changes nothing that was there. No condition. -/
import Derived.Test.YtdjilkohnhejiaaTables2
import Derived.Test.YtdjilkohnhejiaaDrawEntries2
import Derived.Test.YtdjilkohnhejiaaAlive
namespace Go.Proofs.Ytdjilkohnhejiaa
open Go.RowKit
set_option linter.unusedVariables false

/-! ### what is needed of a column -/
theorem fold_acc (ws : List Int) : ∀ (rs : List Entry) (acc : Int), acc ≤ rs.foldl (colStep ws) acc
  | [], _ => Int.le_refl _
  | e :: t, acc => by
    rw [List.foldl_cons]
    refine Int.le_trans ?_ (fold_acc ws t _)
    unfold colStep; split <;> omega
theorem fold_mem (ws : List Int) : ∀ (rs : List Entry) (acc : Int) (e : Entry), e ∈ rs → e.col + e.many = (ws.length : Int) + 1 → e.width - sumFrom ws e.col.toNat ≤ rs.foldl (colStep ws) acc
  | [], _, _, h, _ => by simp at h
  | x :: t, acc, e, h, he => by
    rw [List.foldl_cons]
    rcases List.mem_cons.1 h with rfl | h
    · refine Int.le_trans ?_ (fold_acc ws t _)
      unfold colStep; rw [if_pos he]; omega
    · exact fold_mem ws t _ e h he
theorem fold_tight (ws : List Int) : ∀ (rs : List Entry) (acc : Int), rs.foldl (colStep ws) acc = acc ∨ ∃ e ∈ rs, e.col + e.many = (ws.length : Int) + 1 ∧ rs.foldl (colStep ws) acc = e.width - sumFrom ws e.col.toNat
  | [], _ => .inl rfl
  | x :: t, acc => by
    rw [List.foldl_cons]
    rcases fold_tight ws t (colStep ws acc x) with h | ⟨e, he, h1, h2⟩
    · rw [h]
      unfold colStep
      split
      · rename_i hx
        by_cases hm : acc < x.width - sumFrom ws x.col.toNat
        · exact .inr ⟨x, by simp, hx, by omega⟩
        · exact .inl (by omega)
      · exact .inl rfl
    · exact .inr ⟨e, by simp [he], h1, h2⟩
theorem tw_take (rs : List Entry) : ∀ (M c : Nat), c ≤ M → (tw rs M).take c = tw rs c
  | 0, c, h => by
    obtain rfl : c = 0 := by omega
    rfl
  | M + 1, c, h => by
    by_cases hc : c = M + 1
    · subst hc; exact List.take_of_length_le (by rw [tw_len]; exact Nat.le_refl _)
    · rw [tw, List.take_append_of_le_length (by rw [tw_len]; omega)]
      exact tw_take rs M c (by omega)
theorem tw_get (rs : List Entry) {M c : Nat} (h : c < M) : (tw rs M)[c]? = some (colW rs (tw rs c)) := by
  have h1 := tw_take rs M (c + 1) h
  have h2 : ((tw rs M).take (c + 1))[c]? = (tw rs M)[c]? := by rw [List.getElem?_take, if_pos (by omega)]
  rw [← h2, h1, tw, List.getElem?_append_right (by rw [tw_len]; exact Nat.le_refl _), tw_len]; simp
/-- The room that many columns from a on have. -/
def roomOf (ws : List Int) (a mn : Nat) : Int := ((ws.drop a).take mn).sum
theorem room_eq (rs : List Entry) {M a mn c : Nat} (hc : c < M) (he : a + mn = c + 1) (hm : 1 ≤ mn) : roomOf (tw rs M) a mn = sumFrom (tw rs c) a + colW rs (tw rs c) := by
  have h1 : ((tw rs M).drop a).take mn = ((tw rs M).take (a + mn)).drop a := by rw [List.drop_take, Nat.add_sub_cancel_left]
  rw [roomOf, h1, he, tw_take rs M (c + 1) hc, tw, List.drop_append_of_le_length (by rw [tw_len]; omega), List.sum_append, sumFrom]
  simp
/-- Whether a column is needed. -/
def need (ws : List Int) (l : List Entry) (c : Nat) : Bool := l.any fun e => decide (e.col + e.many = (c : Int) + 1) && decide (roomOf ws e.col.toNat e.many.toNat = e.width)
def needs (ws : List Int) (l : List Entry) (M : Nat) : List Bool := (List.range M).map (need ws l)
theorem needs_len (ws : List Int) (l : List Entry) (M : Nat) : (needs ws l M).length = M := by simp [needs]
theorem needs_get {ws : List Int} {l : List Entry} {M c : Nat} (h : c < M) : (needs ws l M)[c]? = some (need ws l c) := by simp [needs, h]
theorem needs_yes {ws : List Int} {l : List Entry} {M a mn c : Nat} {e : Entry} (hc : c < M) (h1 : e.col = a) (h2 : e.many = mn) (he : a + mn = c + 1) (hw : roomOf ws a mn = e.width) :
    ((needs ws l M).map Value.bool).set c (.bool true) = (needs ws (l ++ [e]) M).map Value.bool := by
  apply List.ext_getElem
  · simp [needs]
  · intro i hi1 hi2
    have hi : i < M := by simpa [needs] using hi2
    rw [List.getElem_set]
    by_cases hic : c = i
    · subst hic
      have : need ws (l ++ [e]) c = true := by
        rw [need, List.any_append]
        have e1 : e.col + e.many = (c : Int) + 1 := by omega
        have e2 : (a : Int) + mn = (c : Int) + 1 := by omega
        simp [h1, h2, hw, e2]
      simp [needs, this]
    · have : need ws (l ++ [e]) i = need ws l i := by
        rw [need, need, List.any_append]
        have e1 : ¬ (e.col + e.many = (i : Int) + 1) := by omega
        simp [e1]
      simp [needs, this, hic]
theorem needs_no {ws : List Int} {l : List Entry} {M a mn : Nat} {e : Entry} (h1 : e.col = a) (h2 : e.many = mn) (hw : roomOf ws a mn ≠ e.width) : needs ws (l ++ [e]) M = needs ws l M := by
  unfold needs
  congr 1
  funext i
  rw [need, need, List.any_append]
  simp [h1, h2, hw]
theorem room_ge {rs : List Entry} {M a mn : Nat} {e : Entry} (he : e ∈ rs) (h1 : e.col = a) (h2 : e.many = mn) (hm : 1 ≤ mn) (hM : a + mn ≤ M) : e.width ≤ roomOf (tw rs M) a mn := by
  have h3 := room_eq rs (M := M) (a := a) (mn := mn) (c := a + mn - 1) (by omega) (by omega) hm
  have h4 := fold_mem (tw rs (a + mn - 1)) rs 0 e he (by rw [tw_len]; omega)
  rw [show e.col.toNat = a by omega] at h4
  rw [h3, colW]; omega
theorem need_pos {rs : List Entry} {M c : Nat} (hew : ∀ e ∈ rs, 0 ≤ e.col ∧ 1 ≤ e.many) (hc : c < M) (h : 0 < colW rs (tw rs c)) : need (tw rs M) rs c = true := by
  rcases fold_tight (tw rs c) rs 0 with h0 | ⟨e, he, h1, h2⟩
  · rw [colW, h0] at h; omega
  · rw [tw_len] at h1
    obtain ⟨e1, e2⟩ := hew e he
    rw [need, List.any_eq_true]
    refine ⟨e, he, ?_⟩
    have h3 := room_eq rs (M := M) (a := e.col.toNat) (mn := e.many.toNat) (c := c) hc (by omega) (by omega)
    rw [colW] at h3
    simp [h1, h3, h2]
    omega

theorem infoBool : (Try.prog.info? 4).map (fun i => (i.zero, i.size, i.bytes)) = some (some (.bool false), 1, 1) := by kernel_rfl
theorem made_bools (n : Nat) : (madeCells #[.bool false] n).toList = (List.replicate n false).map Value.bool := by
  simp only [madeCells]
  apply List.ext_getElem
  · simp
  · intro i h1 h2
    simp [Nat.mod_one]
theorem needs_nil (ws : List Int) (M : Nat) : needs ws [] M = List.replicate M false := by
  apply List.ext_getElem
  · simp [needs]
  · intro i h1 h2; simp [needs, need]

set_option maxHeartbeats 3200000 in
theorem w_FnTableWidths (A : Option Addr) (n c : Nat) (xs : List Int) (w : World) (h : CodeAt w A n c xs) :
    Calls Try.prog 12 #[.slice A n c] w fun e w' => e = .returned (.bool true) ∧ Below w.heap.size w w' := by
  obtain ⟨i0, hi, hz0, hz1, hz2⟩ := info_parts infoBool
  have hcm := h.2
  unfold maxLen at hcm
  by_cases hbig : 1048576 < n
  · go_enter Try.func12, Try.ntmps12
    go_wp2
    go_ret
    exact ⟨rfl, Below.refl _ _⟩
  · go_enter Try.func12, Try.ntmps12
    go_wp2_with fail
    refine (c_drawTableWidths A n c xs _ h).mono ?_
    rintro e w1 ⟨A1, c1, rs, m, rfl, hl1, ⟨hm0, hm7⟩, R, B⟩
    obtain ⟨X, HX⟩ : ∃ X, Hid (X = tableWidths rs m) := ⟨_, rfl⟩
    have hX6 : X.length ≤ 6 := by rw [unhide HX]; exact tableWidths_len rs m
    have hbdR := R.at_.bd
    clear hbig hcm h
    go_wp2_with fail
    refine (c_tableWidths A1 _ c1 rs m _ R.at_).mono ?_
    rintro e w2 ⟨A2, c2, he, O, hb⟩
    rw [← unhide HX] at he O
    subst he
    replace B := bnext B hb
    replace R := R.next hb
    clear hb
    go_wp2_with fail
    refine (c_tableWidths' A1 _ c1 rs m _ R.at_).mono ?_
    rintro e w3 ⟨A3, c3, he, O', hb⟩
    rw [← unhide HX] at he O'
    subst he
    replace B := bnext B hb
    replace R := R.next hb
    replace O := O.next hb
    clear hb
    go_wp2_with fail
    refine (c_sameInts_same _ _ _ _ _ _ X _ O.at_ O'.at_).mono ?_
    rintro e w4 ⟨rfl, hb⟩
    replace B := bnext B hb
    replace R := R.next hb
    replace O := O.next hb
    clear hb O'
    cases hv : entriesValid rs m
    · have hX0 : X.length = 0 := by rw [unhide HX]; simp [tableWidths, hv]
      have hz : ((X.length : Int) == 0) = true := by simp [hX0]
      clear hX0
      go_wp2_with fail
      refine (c_entriesValid_b' hv _ R.at_).mono ?_
      rintro e w5 ⟨rfl, hb⟩
      replace B := bnext B hb
      clear hb
      go_wp2_with fail
      refine (c_alive _).mono ?_
      rintro e w6 ⟨rfl, hb⟩
      go_wp2
      go_ret
      exact ⟨rfl, bnext B hb⟩
    · obtain ⟨hm1, hm2, hl, hall⟩ := valid_parts hv
      obtain ⟨M, rfl⟩ := Int.eq_ofNat_of_zero_le (show 0 ≤ m by omega)
      have hXt : X = tw rs M := by rw [unhide HX]; simp [tableWidths, hv]
      have hew := entries_w hall
      have hXl : X.length = M := by rw [hXt]; exact tw_len rs M
      have hXb : ∀ x ∈ X, 0 ≤ x ∧ x ≤ 1000 := by rw [hXt]; exact tw_bd (fun e he => (hew e he).2.2.2.2.2) M
      have hnp : ∀ c, c < M → 0 < colW rs (tw rs c) → need (tw rs M) rs c = true := fun c hc hp => need_pos (fun e he => ⟨(hew e he).1, (hew e he).2.2.1⟩) hc hp
      have HXT := hide hXt
      have HEW := hide hew
      have HXL := hide hXl
      have HXB := hide hXb
      have HNP := hide hnp
      clear hall hl hXt hew hXl hXb hnp
      go_wp2_with fail
      refine (c_entriesValid_b' hv _ R.at_).mono ?_
      rintro e w5 ⟨rfl, hb⟩
      replace B := bnext B hb
      replace R := R.next hb
      replace O := O.next hb
      clear hb hv
      go_wp2_with (at_make; refine wpList_make_full _ rfl _ _ 62 rfl w5.heap.size 4 i0 (.bool false) 1 Try.underlying62 hi hz0 hz1 .i64 .i64 M M M rfl rfl rfl rfl ?b2 ?b3 (Nat.le_refl _) ?_)
      case b2 => rw [hz2]; omega
      case b3 => unfold maxLen; omega
      intro w6 N hg
      rw [made_bools, ← needs_nil X M] at N
      have B6 : Below w5.heap.size w5 w6 := ⟨hg.os, hg.tape, hg.output, hg.size, fun k hk => hg.block k hk (by simp)⟩
      obtain ⟨g, HG⟩ : ∃ g, Hid (g = w5.heap.size) := ⟨_, rfl⟩
      rw [← unhide HG] at N ⊢
      have hgb : w5.heap.size ≤ g := by rw [unhide HG]; exact Nat.le_refl _
      replace N := own_base N hgb
      clear HG hg
      go_wp2
      go_loopw [7] (fun i wr => ∃ (k : Nat), k ≤ rs.length ∧ i = .int .i64 k ∧ wr.ownsRow w5.heap.size 4 1 (.slice (some ⟨g, 0, none⟩) M M) M ((needs X (rs.take k) M).map Value.bool) ∧ Below w5.heap.size w5 wr) (fun i _ => rs.length - (intOf i).toNat)
      case atStart => exact ⟨0, Nat.zero_le _, rfl, N, B6⟩
      case round =>
        clear N B6
        obtain ⟨k, hk, rfl, N, B6⟩ := hrel
        by_cases hlt : k < rs.length
        · obtain ⟨b, off, r, rfl, hbl, hr, p0, p1, p2⟩ := (R.at_.next B6).at_ hlt
          obtain ⟨hc0, hc1, hn0, hn1, hw0, hw1⟩ := unhide HEW r (mem_of_get hr)
          have hge := fun (a mn : Nat) (h1 : r.col = a) (h2 : r.many = mn) (h3 : 1 ≤ mn) (h4 : a + mn ≤ M) => room_ge (M := M) (mem_of_get hr) h1 h2 h3 h4
          have HR := hide hr
          obtain ⟨col, many, width⟩ := r
          dsimp only at p0 p1 p2 hc0 hc1 hn0 hn1 hw0 hw1 hge
          obtain ⟨a, rfl⟩ := Int.eq_ofNat_of_zero_le hc0
          obtain ⟨mn, rfl⟩ := Int.eq_ofNat_of_zero_le (show 0 ≤ many by omega)
          have hge2 := hge a mn rfl rfl (by omega) (by omega)
          rw [← unhide HXT] at hge2
          have O2 := (O.next B6).at_.next (bof wr (.cells #[.int .i64 a, .int .i64 mn, .int .i64 width] 59))
          have N2 := World.ownsRow.alloc N (.cells #[.int .i64 a, .int .i64 mn, .int .i64 width] 59)
          have B2 := bmk B6 (.cells #[.int .i64 a, .int .i64 mn, .int .i64 width] 59)
          clear hr hge N B6
          go_wp2
          go_loop [9, 10] (fun s q => ∃ (d : Nat) (sm : Int), d ≤ mn ∧ q = .int .i64 (a + d : Nat) ∧ s = .int .i64 sm ∧ Hid (sm = ((X.drop a).take d).sum) ∧ 0 ≤ sm ∧ sm ≤ 1000 * (d : Int)) (fun _ q => a + mn - (intOf q).toNat)
          case atStart => exact ⟨0, 0, by omega, rfl, rfl, rfl, by omega, by omega⟩
          case round =>
            obtain ⟨d, sm, had, rfl, rfl, hsm, hs0, hs1⟩ := hrel
            by_cases hq : d < mn
            · have hq2 : a + d < X.length := by rw [unhide HXL]; omega
              obtain ⟨b3, off3, x, rfl, hbl3, hx, hcell⟩ := O2.at_ hq2
              obtain ⟨hx0, hx1⟩ := unhide HXB x (mem_of_get hx)
              have hsn : sm + x = ((X.drop a).take (d + 1)).sum := by
                rw [take_snoc' (by rw [List.getElem?_drop]; exact hx), List.sum_append, ← unhide hsm]; simp
              have HS := hide hsn
              clear hx hsn
              go_wp2
              go_round
              case rel => exact ⟨d + 1, sm + x, by omega, by go_num, rfl, HS, by omega, by omega⟩
              case measure => simp [intOf]; omega
            · obtain rfl : mn = d := by omega
              have hroom : sm = roomOf X a mn := unhide hsm
              have hge3 : width ≤ sm := by rw [hroom]; exact hge2
              have hrt : rs.take (k + 1) = rs.take k ++ [⟨a, mn, width⟩] := take_snoc' (unhide HR)
              have HRT := hide hrt
              have HROOM := hide hroom
              clear hroom hsm hge2 hrt
              have hcl : a + mn - 1 < M := by omega
              by_cases hw : sm = width
              · have hyes := needs_yes (ws := X) (l := rs.take k) (M := M) (a := a) (mn := mn) (c := a + mn - 1) (e := ⟨a, mn, width⟩) hcl rfl rfl (by omega) (by rw [← unhide HROOM]; exact hw)
                have N3 := (N2.stored (a + mn - 1) (.bool true)).1
                rw [hyes, ← unhide HRT] at N3
                have B3 : Below w5.heap.size w5 _ := B2.setCell (p := ⟨g, a + mn - 1, none⟩) hgb (.bool true)
                have hcell := N2.cellAt (a + mn - 1) (by omega)
                rw [List.getElem?_map, needs_get hcl] at hcell
                have hfz := N2.frozenAt (a + mn - 1)
                have hwq : (sm == width) = true := by simp [hw]
                have hidx : (a : Int) + mn - 1 = ((a + mn - 1 : Nat) : Int) := by omega
                have HID := hide hidx
                clear hyes hidx
                go_wp2
                go_roundw
                case rel => exact ⟨k + 1, by omega, by go_num, N3, B3⟩
                case measure => simp [intOf]; omega
              · have hno := needs_no (ws := X) (l := rs.take k) (M := M) (a := a) (mn := mn) (e := ⟨a, mn, width⟩) rfl rfl (by rw [← unhide HROOM]; exact hw)
                rw [← unhide HRT] at hno
                have hwq : (sm == width) = false := by simpa using hw
                rw [← hno] at N2
                clear hno
                go_wp2
                go_roundw
                case rel => exact ⟨k + 1, by omega, by go_num, N2, B2⟩
                case measure => simp [intOf]; omega
        · have hkl : rs.take k = rs := List.take_of_length_le (by omega)
          rw [hkl] at N
          have O2 := (O.next B6).at_
          have HN := hide hkl
          clear hkl
          go_wp2
          go_loop [11] (fun i => ∃ (j : Nat), j ≤ X.length ∧ i = .int .i64 j) (fun i => X.length - (intOf i).toNat)
          case atStart => exact ⟨0, Nat.zero_le _, rfl⟩
          case round =>
            obtain ⟨j, hj, rfl⟩ := hrel
            by_cases hlt : j < X.length
            · have hjM : j < M := by rw [← unhide HXL]; exact hlt
              obtain ⟨b, off, x, rfl, hbl, hx, hc⟩ := O2.at_ hlt
              obtain ⟨hx0, hx1⟩ := unhide HXB x (mem_of_get hx)
              have hxe : x = colW rs (tw rs j) := by
                rw [unhide HXT, tw_get rs hjM] at hx; exact (Option.some.inj hx).symm
              have hcell := N.cellAt j (by omega)
              rw [List.getElem?_map, needs_get hjM] at hcell
              by_cases hpos : 0 < x
              · have hnd : need X rs j = true := by
                  rw [unhide HXT]; exact unhide HNP j hjM (by rw [← hxe]; exact hpos)
                rw [hnd] at hcell
                clear hx hxe hnd
                go_wp2
                go_round
                case rel => exact ⟨j + 1, by omega, by go_num⟩
                case measure => simp [intOf]; omega
              · clear hx hxe hcell
                go_wp2
                go_round
                case rel => exact ⟨j + 1, by omega, by go_num⟩
                case measure => simp [intOf]; omega
            · have hb3 : X.length = M := unhide HXL
              have hb2 : ((X.length : Int) == (M : Int)) = true := by rw [hb3]; simp
              clear hb3
              go_wp2
              go_ret
              exact ⟨rfl, bnext B B6⟩
end Go.Proofs.Ytdjilkohnhejiaa
