/- The widths of a table's columns: the reference's contract; where columns begin. No condition. -/
import Derived.Test.YtdjilkohnhejiaaTables
namespace Go.Proofs.Ytdjilkohnhejiaa
open Go.RowKit
set_option linter.unusedVariables false

set_option maxHeartbeats 2000000 in
theorem c_tableWidths' (A : Option Addr) (n c : Nat) (rs : List Entry) (m : Int) (w : World) (hR : EntriesAt w A n c rs) :
    Calls Try.prog 41 #[.slice A n c, .int .i64 m] w fun e w' => ∃ A' c', e = .returned (.slice A' (tableWidths rs m).length c') ∧ OwnI w' w.heap.size A' c' (tableWidths rs m) ∧ Below w.heap.size w w' := by
  have hlen := hR.len
  have hbd := hR.bd
  have O0 : OwnI (w.alloc (.cells #[] 3)) w.heap.size (some ⟨w.heap.size, 0, none⟩) 0 [] := World.ownsRow_made w #[] 0 (Nat.le_refl _) (Nat.zero_le _) rfl
  cases h1 : entriesValid rs m
  · have H : Hid (tableWidths rs m = []) := by show _ = _; simp [tableWidths, h1]
    by_cases hm : 0 < m
    · go_enter Try.func41, Try.ntmps41
      go_wp2
      refine wp_loop_rounds 1 ?_
      rw [rounds_succ]
      go_wp2_with fail
      refine (c_entriesValid_b' h1 _ (hR.next (bof _ _))).mono ?_
      rintro e w1 ⟨rfl, hb1⟩
      go_wp2
      go_ret
      rw [unhide H]
      exact ⟨_, 0, rfl, O0.next hb1, bnext (bof _ _) hb1⟩
    · go_enter Try.func41, Try.ntmps41
      go_wp2
      refine wp_loop_rounds 1 ?_
      rw [rounds_succ]
      go_wp2
      go_ret
      rw [unhide H]
      exact ⟨_, 0, rfl, O0, bof _ _⟩
  · obtain ⟨hm1, hm2, hl, hall⟩ := valid_parts h1
    obtain ⟨M, rfl⟩ := Int.eq_ofNat_of_zero_le (show 0 ≤ m by omega)
    have H : Hid (tableWidths rs (M : Int) = tw rs M) := by show _ = _; simp [tableWidths, h1]
    have hew := entries_w hall
    have HEW := hide hew
    have htb := tw_bd (rs := rs) (fun e he => (hew e he).2.2.2.2.2)
    have HTB := hide htb
    have HL := hide hlen
    have HV := hide h1
    clear hall hew htb hlen hl h1
    go_enter Try.func41, Try.ntmps41
    go_wp2
    go_loopw [5, 6] (fun o i wr => ∃ (cN : Nat) (AO : Option Addr) (cO : Nat) (ws : List Int), cN ≤ M ∧ i = .int .i64 cN ∧ o = .slice AO ws.length cO ∧ Hid (ws = tw rs cN) ∧ OwnI wr w.heap.size AO cO ws ∧ Below w.heap.size w wr) (fun _ i _ => M - (intOf i).toNat)
    case atStart => exact ⟨0, _, _, [], Nat.zero_le _, rfl, rfl, rfl, O0, bof _ _⟩
    case round =>
      clear O0
      obtain ⟨cN, AO, cO, ws, hcM, rfl, rfl, HWS, O, B⟩ := hrel
      by_cases hc : cN < M
      · have hwl : ws.length = cN := by rw [unhide HWS]; exact tw_len rs cN
        have hwb : ∀ x ∈ ws, 0 ≤ x ∧ x ≤ 1000 := by rw [unhide HWS]; exact unhide HTB cN
        have HWB := hide hwb
        have HWL := hide hwl
        clear hwb hwl
        go_wp2_with fail
        refine (c_entriesValid_b' (unhide HV) _ (hR.next B)).mono ?_
        rintro e w2 ⟨rfl, hb⟩
        replace B := bnext B hb
        replace O := O.next hb
        clear hb
        go_wp2
        go_loopw [7, 8] (fun q i wr => ∃ (k : Nat) (acc : Int), k ≤ n ∧ i = .int .i64 k ∧ q = .int .i64 acc ∧ Hid (acc = (rs.take k).foldl (colStep ws) 0) ∧ 0 ≤ acc ∧ acc ≤ 1000 ∧ OwnI wr w.heap.size AO cO ws ∧ Below w.heap.size w wr) (fun _ i _ => n - (intOf i).toNat)
        case atStart => exact ⟨0, 0, Nat.zero_le _, rfl, rfl, rfl, by omega, by omega, O, B⟩
        case round =>
          clear O B
          obtain ⟨k, acc, hk, rfl, rfl, hacc, ha0, ha1, O, B⟩ := hrel
          by_cases hlt : k < n
          · obtain ⟨b, off, r, rfl, hbl, hr, p0, p1, p2⟩ := (hR.next B).at_ hlt
            obtain ⟨hc0, hc1, hn0, hn1, hw0, hw1⟩ := unhide HEW r (mem_of_get hr)
            obtain ⟨col, many, width⟩ := r
            dsimp only at p0 p1 p2 hc0 hc1 hn0 hn1 hw0 hw1
            obtain ⟨a, rfl⟩ := Int.eq_ofNat_of_zero_le hc0
            have hst : (rs.take (k + 1)).foldl (colStep ws) 0 = colStep ws acc ⟨a, many, width⟩ := by rw [foldl_snoc hr, ← unhide hacc]
            have HST := hide hst
            clear hst hr hacc
            have O2 : OwnI (wr.alloc (.cells #[.int .i64 a, .int .i64 many, .int .i64 width] 59)) w.heap.size AO cO ws := World.ownsRow.alloc O _
            have B2 := bmk B (.cells #[.int .i64 a, .int .i64 many, .int .i64 width] 59)
            clear O B
            cases he : (((a : Int) + many) != ((cN : Int) + 1))
            · have he' : (a : Int) + many = (cN : Int) + 1 := by simpa using he
              have hac : a ≤ cN := by omega
              go_wp2
              go_loop [10, 11] (fun s q => ∃ (d : Nat) (sm : Int), a + d ≤ cN ∧ q = .int .i64 (a + d : Nat) ∧ s = .int .i64 sm ∧ Hid (sm = ((ws.drop a).take d).sum) ∧ 0 ≤ sm ∧ sm ≤ 1000 * (d : Int)) (fun _ q => cN - (intOf q).toNat)
              case atStart => exact ⟨0, 0, by omega, rfl, rfl, rfl, by omega, by omega⟩
              case round =>
                obtain ⟨d, sm, had, rfl, rfl, hsm, hs0, hs1⟩ := hrel
                by_cases hq : a + d < cN
                · have hq2 : a + d < ws.length := by rw [unhide HWL]; exact hq
                  obtain ⟨b3, off3, x, rfl, hbl3, hx, hcell⟩ := O2.at_.at_ hq2
                  obtain ⟨hx0, hx1⟩ := unhide HWB x (mem_of_get hx)
                  have hsn : sm + x = ((ws.drop a).take (d + 1)).sum := by
                    rw [take_snoc' (by rw [List.getElem?_drop]; exact hx), List.sum_append, ← unhide hsm]; simp
                  have HS := hide hsn
                  clear hx hsn
                  go_wp2
                  go_round
                  case rel => exact ⟨d + 1, sm + x, by omega, by go_num, rfl, HS, by omega, by omega⟩
                  case measure => simp [intOf]; omega
                · have hroom : sm = sumFrom ws a := by
                    rw [unhide hsm, List.take_of_length_le (by rw [List.length_drop, unhide HWL]; omega)]; rfl
                  have hres : colStep ws acc ⟨a, many, width⟩ = max acc (width - sm) := by
                    rw [colStep, if_pos (by rw [unhide HWL]; exact he'), hroom]; rfl
                  have HRES := hide hres
                  have hd6 : (d : Int) ≤ 6 := by omega
                  clear hroom hres hsm
                  have hw2 : (wr.alloc (.cells #[.int .i64 a, .int .i64 many, .int .i64 width] 59)).cell? ⟨wr.heap.size, 2, none⟩ = some (.int .i64 width) := (Blk.new wr 59 #[.int .i64 a, .int .i64 many, .int .i64 width]).cell 2
                  by_cases hmx : acc < width - sm
                  · have HY : Hid (width - sm = (rs.take (k + 1)).foldl (colStep ws) 0) := by show _ = _; rw [unhide HST, unhide HRES]; omega
                    go_wp2
                    go_roundw
                    case rel => exact ⟨k + 1, _, by omega, by go_num, rfl, HY, by omega, by omega, O2, B2⟩
                    case measure => simp [intOf]; omega
                  · have HY : Hid (acc = (rs.take (k + 1)).foldl (colStep ws) 0) := by show _ = _; rw [unhide HST, unhide HRES]; omega
                    go_wp2
                    go_roundw
                    case rel => exact ⟨k + 1, _, by omega, by go_num, rfl, HY, by omega, by omega, O2, B2⟩
                    case measure => simp [intOf]; omega
            · have HY : Hid (acc = (rs.take (k + 1)).foldl (colStep ws) 0) := by
                show _ = _; rw [unhide HST, colStep, if_neg]; rw [unhide HWL]; simpa using he
              go_wp2
              go_roundw
              case rel => exact ⟨k + 1, acc, by omega, by go_num, rfl, HY, by omega, by omega, O2, B2⟩
              case measure => simp [intOf]; omega
          · have hcol : ws ++ [acc] = tw rs (cN + 1) := by
              rw [tw, ← unhide HWS, colW, unhide hacc, List.take_of_length_le (by rw [unhide HL]; omega)]
            have HC := hide hcol
            have hl7 : ws.length ≤ 6 := by rw [unhide HWL]; omega
            have hbs := B.size
            clear hcol hacc
            go_wp2_with (at_builtin; refine wpList_push_I (w0 := w) acc rfl rfl O rfl rfl (by omega) hbs ?_; intro A6 c6 w6 O6 hg6 hpre)
            have B6 : Below w.heap.size w w6 := b_own (bmk B _) hpre (Nat.le_refl _) hg6
            clear hg6 hpre O B hbs
            go_wp2
            go_roundw
            case rel => exact ⟨cN + 1, A6, c6, ws ++ [acc], by omega, by go_num, by simp, HC, O6, B6⟩
            case measure => simp [intOf]; omega
      · obtain rfl : M = cN := by omega
        go_wp2
        go_ret
        rw [unhide H, ← unhide HWS]
        exact ⟨_, _, rfl, O, B⟩
/-! ### where columns begin -/
def placeAt (ws : List Int) (gap : Int) (k : Nat) : Int := (ws.take k).sum + gap * k
def placesOf (ws : List Int) (gap : Int) (k : Nat) : List Int := (List.range k).map (placeAt ws gap)
def tableOk (rs : List Entry) (m gap : Int) : Bool := entriesValid rs m && inB gap 0 1000
def tablePlaces (rs : List Entry) (m gap : Int) : List Int := if tableOk rs m gap then placesOf (tw rs m.toNat) gap m.toNat else []
def tableWide (rs : List Entry) (m gap : Int) : Int := if tableOk rs m gap then (tw rs m.toNat).sum + gap * (m - 1) else -1
theorem placesOf_snoc (ws : List Int) (gap : Int) (k : Nat) : placesOf ws gap (k + 1) = placesOf ws gap k ++ [placeAt ws gap k] := by simp [placesOf, List.range_succ]
theorem placesOf_len (ws : List Int) (gap : Int) (k : Nat) : (placesOf ws gap k).length = k := by simp [placesOf]
theorem placeAt_step {ws : List Int} {gap : Int} {k : Nat} {x : Int} (h : ws[k]? = some x) : placeAt ws gap (k + 1) = placeAt ws gap k + (x + gap) := by
  rw [placeAt, placeAt, take_snoc' h, List.sum_append]
  simp [Int.mul_add]; omega
theorem tablePlaces_len (rs : List Entry) (m gap : Int) : (tablePlaces rs m gap).length ≤ 6 := by
  unfold tablePlaces
  split
  · rename_i h
    simp only [tableOk, Bool.and_eq_true] at h
    have := valid_parts h.1
    rw [placesOf_len]; omega
  · simp

set_option maxHeartbeats 1600000 in
theorem c_tablePlaces (A : Option Addr) (n c : Nat) (rs : List Entry) (m gap : Int) (w : World) (hR : EntriesAt w A n c rs) :
    Calls Try.prog 47 #[.slice A n c, .int .i64 m, .int .i64 gap] w fun e w' => ∃ A' c', e = .returned (.tuple #[.slice A' (tablePlaces rs m gap).length c', .int .i64 (tableWide rs m gap)]) ∧ OwnI w' w.heap.size A' c' (tablePlaces rs m gap) ∧ Below w.heap.size w w' := by
  cases h1 : entriesValid rs m
  · have H : Hid (tablePlaces rs m gap = [] ∧ tableWide rs m gap = -1) := by show _ ∧ _; simp [tablePlaces, tableWide, tableOk, h1]
    go_enter Try.func47, Try.ntmps47
    go_wp2_with fail
    refine (c_entriesValid_b h1 _ hR).mono ?_
    rintro e w1 ⟨rfl, hb1⟩
    go_wp2
    go_ret2
    rw [(unhide H).1, (unhide H).2]
    exact ⟨none, 0, rfl, OwnI.nil_ _ _, hb1⟩
  · cases h2 : inB gap 0 1000
    · have H : Hid (tablePlaces rs m gap = [] ∧ tableWide rs m gap = -1) := by show _ ∧ _; simp [tablePlaces, tableWide, tableOk, h2]
      go_enter Try.func47, Try.ntmps47
      go_wp2_with fail
      refine (c_entriesValid_b h1 _ hR).mono ?_
      rintro e w1 ⟨rfl, hb1⟩
      go_wp2_with fail
      refine (c_in_b h2 _).mono ?_
      rintro e w2 ⟨rfl, rfl⟩
      go_wp2
      go_ret2
      rw [(unhide H).1, (unhide H).2]
      exact ⟨none, 0, rfl, OwnI.nil_ _ _, hb1⟩
    · obtain ⟨hm1, hm2, hl, hall⟩ := valid_parts h1
      obtain ⟨M, rfl⟩ := Int.eq_ofNat_of_zero_le (show 0 ≤ m by omega)
      obtain ⟨hg0, hg1⟩ := inB_iff.1 h2
      obtain ⟨ws, HWS⟩ : ∃ ws, Hid (ws = tw rs M) := ⟨_, rfl⟩
      have hT : tableWidths rs (M : Int) = ws := by rw [unhide HWS]; simp [tableWidths, h1]
      have hP : tablePlaces rs (M : Int) gap = placesOf ws gap M := by rw [unhide HWS]; simp [tablePlaces, tableOk, h1, h2]
      have hW : tableWide rs (M : Int) gap = ws.sum + gap * ((M : Int) - 1) := by rw [unhide HWS]; simp [tableWide, tableOk, h1, h2]
      have hwl : ws.length = M := by rw [unhide HWS]; exact tw_len rs M
      have hwb : ∀ x ∈ ws, 0 ≤ x ∧ x ≤ 1000 := by rw [unhide HWS]; exact tw_bd (fun e he => (entries_w hall e he).2.2.2.2.2) M
      have HT := hide hT
      have HP := hide hP
      have HW := hide hW
      have HWL := hide hwl
      have HWB := hide hwb
      clear hT hP hW hwl hwb hall hl
      go_enter Try.func47, Try.ntmps47
      go_wp2_with fail
      refine (c_entriesValid_b h1 _ hR).mono ?_
      rintro e w1 ⟨rfl, hb1⟩
      clear h1
      go_wp2_with fail
      refine (c_in_b h2 _).mono ?_
      rintro e w2 ⟨rfl, rfl⟩
      clear h2
      go_wp2_with fail
      refine (c_tableWidths A n c rs M _ (hR.next hb1)).mono ?_
      rintro e w3 ⟨A3, c3, he, O, hb3⟩
      rw [unhide HT] at he O
      subst he
      have B := bnext hb1 hb3
      have XO := O
      have hs3 := B.size
      clear hb1 hb3
      go_wp2
      go_loopw [8, 9, 25] (fun o at_ i wr => ∃ (k : Nat) (p : Int) (AO : Option Addr) (cO : Nat) (acc : List Int), k ≤ M ∧ i = .int .i64 k ∧ at_ = .int .i64 p ∧ Hid (p = placeAt ws gap k) ∧ 0 ≤ p ∧ p ≤ 2000 * (k : Int) ∧ o = .slice AO acc.length cO ∧ Hid (acc.length = k) ∧ Hid (acc = placesOf ws gap k) ∧ OwnI wr w3.heap.size AO cO acc ∧ (∃ BX, OwnI wr BX A3 c3 ws) ∧ w3.heap.size ≤ wr.heap.size ∧ Below w.heap.size w wr) (fun _ _ i _ => M - (intOf i).toNat)
      case atStart => exact ⟨0, 0, none, 0, [], Nat.zero_le _, rfl, rfl, by show _ = _; simp [placeAt], by omega, by omega, rfl, rfl, rfl, OwnI.nil_ _ _, ⟨_, O⟩, Nat.le_refl _, B⟩
      case round =>
        clear O B
        obtain ⟨k, p, AO, cO, acc, hk, rfl, rfl, hp, hp0, hp1, rfl, HAL, hacc, O, ⟨BX, X⟩, hbs, B⟩ := hrel
        by_cases hlt : k < M
        · have hlt2 : k < ws.length := by rw [unhide HWL]; exact hlt
          have hap := own_apart XO O (Nat.le_refl _)
          obtain ⟨b3, off3, x, rfl, hbl3, hx, hcell⟩ := X.at_.at_ hlt2
          obtain ⟨hx0, hx1⟩ := unhide HWB x (mem_of_get hx)
          have hps : p + (x + gap) = placeAt ws gap (k + 1) := by rw [placeAt_step hx, ← unhide hp]
          have hac : acc ++ [p] = placesOf ws gap (k + 1) := by rw [placesOf_snoc, ← unhide hacc, ← unhide hp]
          have HPS := hide hps
          have HAC := hide hac
          have HAP := hide hap
          have hl7 : acc.length ≤ 6 := by rw [unhide HAL]; omega
          have hl8 : (acc ++ [p]).length = k + 1 := by rw [List.length_append, unhide HAL]; rfl
          have HL8 := hide hl8
          clear hx hps hac hap hl8
          go_wp2_with (at_builtin; refine wpList_push_I (w0 := w3) p rfl rfl O rfl rfl (by omega) hbs ?_; intro A6 c6 w6 O6 hg6 hpre)
          have B6 : Below w.heap.size w w6 := b_own (bmk B _) hpre hs3 hg6
          have X6 : OwnI w6 _ _ _ ws := World.ownsRow.kept (World.ownsRow.alloc X _) hg6 (unhide HAP)
          have hbs6 : w3.heap.size ≤ w6.heap.size := by have := hg6.size; simp at this; omega
          clear hg6 hpre O B hbs X hcell
          go_wp2
          go_roundw
          case rel => exact ⟨k + 1, p + (x + gap), A6, c6, acc ++ [p], by omega, by go_num, rfl, HPS, by omega, by omega, by simp, HL8, HAC, O6, ⟨_, X6⟩, hbs6, B6⟩
          case measure => simp [intOf]; omega
        · obtain rfl : M = k := by omega
          have hfin : p - gap = ws.sum + gap * ((M : Int) - 1) := by
            rw [unhide hp, placeAt, List.take_of_length_le (by rw [unhide HWL]; exact Nat.le_refl _), Int.mul_sub]; omega
          have HF := hide hfin
          have hno : ¬ M < ws.length := by rw [unhide HWL]; exact Nat.lt_irrefl _
          clear hfin hp
          go_wp2
          go_ret2
          rw [unhide HP, unhide HW, ← unhide hacc, ← unhide HF]
          exact ⟨_, _, rfl, own_base O hs3, B⟩

def xAt (ws : List Int) (gap : Int) (M k : Nat) : Int := (ws.take k).sum + gap * (if k = M then (M : Int) - 1 else (k : Int))
theorem xAt_lt {ws : List Int} {gap : Int} {M k : Nat} (h : k < M) : xAt ws gap M k = placeAt ws gap k := by rw [xAt, if_neg (by omega), placeAt]
theorem xAt_mid {ws : List Int} {gap x : Int} {M k : Nat} (h : k + 1 < M) (hx : ws[k]? = some x) : xAt ws gap M (k + 1) = xAt ws gap M k + x + gap := by
  rw [xAt_lt h, xAt_lt (Nat.lt_of_succ_lt h), placeAt_step hx]; omega
theorem xAt_end {ws : List Int} {gap x : Int} {k : Nat} (hx : ws[k]? = some x) : xAt ws gap (k + 1) (k + 1) = xAt ws gap (k + 1) k + x := by
  rw [xAt_lt (Nat.lt_succ_self k), placeAt, xAt, if_pos rfl, take_snoc' hx, List.sum_append]
  have e : ((k + 1 : Nat) : Int) - 1 = (k : Int) := by omega
  rw [e]; simp; omega

set_option maxHeartbeats 1600000 in
theorem c_tablePlaces' (A : Option Addr) (n c : Nat) (rs : List Entry) (m gap : Int) (w : World) (hR : EntriesAt w A n c rs) :
    Calls Try.prog 46 #[.slice A n c, .int .i64 m, .int .i64 gap] w fun e w' => ∃ A' c', e = .returned (.tuple #[.slice A' (tablePlaces rs m gap).length c', .int .i64 (tableWide rs m gap)]) ∧ OwnI w' w.heap.size A' c' (tablePlaces rs m gap) ∧ Below w.heap.size w w' := by
  cases h1 : entriesValid rs m
  · have H : Hid (tablePlaces rs m gap = [] ∧ tableWide rs m gap = -1) := by show _ ∧ _; simp [tablePlaces, tableWide, tableOk, h1]
    have hT : tableWidths rs m = [] := by simp [tableWidths, h1]
    have HT := hide hT
    clear hT h1
    go_enter Try.func46, Try.ntmps46
    go_wp2_with fail
    refine (c_tableWidths' A n c rs m _ hR).mono ?_
    rintro e w1 ⟨A1, c1, he, O, hb1⟩
    rw [unhide HT] at he O
    subst he
    go_wp2
    refine wp_loop_rounds 1 ?_
    rw [rounds_succ]
    go_wp2
    go_ret2
    rw [(unhide H).1, (unhide H).2]
    exact ⟨_, 0, rfl, World.ownsRow_made w1 #[] 0 hb1.size (Nat.zero_le _) rfl, bmk hb1 _⟩
  · obtain ⟨hm1, hm2, hl, hall⟩ := valid_parts h1
    obtain ⟨M, rfl⟩ := Int.eq_ofNat_of_zero_le (show 0 ≤ m by omega)
    obtain ⟨ws, HWS⟩ : ∃ ws, Hid (ws = tw rs M) := ⟨_, rfl⟩
    have hT : tableWidths rs (M : Int) = ws := by rw [unhide HWS]; simp [tableWidths, h1]
    have hwl : ws.length = M := by rw [unhide HWS]; exact tw_len rs M
    have hwb : ∀ x ∈ ws, 0 ≤ x ∧ x ≤ 1000 := by rw [unhide HWS]; exact tw_bd (fun e he => (entries_w hall e he).2.2.2.2.2) M
    have HT := hide hT
    have HWL := hide hwl
    have HWB := hide hwb
    have hpos : 0 < ws.length := by rw [hwl]; omega
    clear hT hwl hwb hall hl
    cases h2 : inB gap 0 1000
    · have H : Hid (tablePlaces rs M gap = [] ∧ tableWide rs M gap = -1) := by show _ ∧ _; simp [tablePlaces, tableWide, tableOk, h2]
      clear h1
      go_enter Try.func46, Try.ntmps46
      go_wp2_with fail
      refine (c_tableWidths' A n c rs M _ hR).mono ?_
      rintro e w1 ⟨A1, c1, he, O, hb1⟩
      rw [unhide HT] at he O
      subst he
      go_wp2
      refine wp_loop_rounds 1 ?_
      rw [rounds_succ]
      go_wp2_with fail
      refine (c_l1In_b h2 _).mono ?_
      rintro e w2 ⟨rfl, rfl⟩
      go_wp2
      go_ret2
      rw [(unhide H).1, (unhide H).2]
      exact ⟨_, 0, rfl, World.ownsRow_made _ #[] 0 hb1.size (Nat.zero_le _) rfl, bmk hb1 _⟩
    · obtain ⟨hg0, hg1⟩ := inB_iff.1 h2
      have hP : tablePlaces rs (M : Int) gap = placesOf ws gap M := by rw [unhide HWS]; simp [tablePlaces, tableOk, h1, h2]
      have hW : tableWide rs (M : Int) gap = ws.sum + gap * ((M : Int) - 1) := by rw [unhide HWS]; simp [tableWide, tableOk, h1, h2]
      have HP := hide hP
      have HW := hide hW
      clear hP hW h1
      go_enter Try.func46, Try.ntmps46
      go_wp2_with fail
      refine (c_tableWidths' A n c rs M _ hR).mono ?_
      rintro e w3 ⟨A3, c3, he, XO, B⟩
      rw [unhide HT] at he XO
      subst he
      have hs3 := B.size
      have O0 : OwnI (w3.alloc (.cells #[] 3)) w3.heap.size (some ⟨w3.heap.size, 0, none⟩) 0 [] := World.ownsRow_made w3 #[] 0 (Nat.le_refl _) (Nat.zero_le _) rfl
      have X0 : OwnI (w3.alloc (.cells #[] 3)) _ A3 c3 ws := World.ownsRow.alloc XO _
      have hs4 : w3.heap.size ≤ (w3.alloc (.cells #[] 3)).heap.size := by simp
      have hl9 : ws.length ≤ 6 := by rw [unhide HWL]; omega
      go_wp2
      go_loopw [9, 10, 11] (fun o at_ i wr => ∃ (k : Nat) (p : Int) (AO : Option Addr) (cO : Nat) (acc : List Int), k ≤ ws.length ∧ i = .int .i64 k ∧ at_ = .int .i64 p ∧ Hid (p = xAt ws gap M k) ∧ 0 ≤ p ∧ p ≤ 2000 * (k : Int) ∧ o = .slice AO acc.length cO ∧ Hid (acc.length = k) ∧ Hid (acc = placesOf ws gap k) ∧ OwnI wr w3.heap.size AO cO acc ∧ (∃ BX, OwnI wr BX A3 c3 ws) ∧ w3.heap.size ≤ wr.heap.size ∧ Below w.heap.size w wr) (fun _ _ i _ => ws.length - (intOf i).toNat)
      case atStart => exact ⟨0, 0, _, _, [], Nat.zero_le _, rfl, rfl, by show _ = _; rw [xAt_lt (by rw [← unhide HWL]; exact hpos)]; simp [placeAt], by omega, by omega, rfl, rfl, rfl, O0, ⟨_, X0⟩, hs4, bmk B _⟩
      case round =>
        clear O0 X0 B hs4
        obtain ⟨k, p, AO, cO, acc, hk, rfl, rfl, hp, hp0, hp1, rfl, HAL, hacc, O, ⟨BX, X⟩, hbs, B⟩ := hrel
        by_cases hlt : k < ws.length
        · have hkM : k < M := by rw [← unhide HWL]; exact hlt
          have hap := own_apart XO O (Nat.le_refl _)
          obtain ⟨b3, off3, x, rfl, hbl3, hx, hcell⟩ := X.at_.at_ hlt
          obtain ⟨hx0, hx1⟩ := unhide HWB x (mem_of_get hx)
          have hac : acc ++ [p] = placesOf ws gap (k + 1) := by rw [placesOf_snoc, ← unhide hacc, unhide hp, xAt_lt hkM]
          have HAC := hide hac
          have HAP := hide hap
          have hl7 : acc.length ≤ 6 := by rw [unhide HAL]; omega
          have hl8 : (acc ++ [p]).length = k + 1 := by rw [List.length_append, unhide HAL]; rfl
          have HL8 := hide hl8
          have HX := hide hx
          clear hx hac hap hl8 hcell
          go_wp2_with fail
          refine (c_l1In_b h2 _).mono ?_
          rintro e w5 ⟨rfl, rfl⟩
          by_cases hmid : k + 1 < ws.length
          all_goals
            go_wp2_with (at_builtin; refine wpList_push_I (w0 := w3) p rfl rfl O rfl rfl (by omega) hbs ?_; intro A6 c6 w6 O6 hg6 hpre; have B6 : Below w.heap.size w w6 := b_own (bmk B _) hpre hs3 hg6; have X6 : OwnI w6 _ _ _ ws := World.ownsRow.kept (World.ownsRow.alloc X _) hg6 (unhide HAP); have hbs6 : w3.heap.size ≤ w6.heap.size := (by have := hg6.size; simp at this; omega); clear hg6 hpre O B hbs X; obtain ⟨b4, off4, x4, e4, hbl4, hx4, hcell⟩ := X6.at_.at_ hlt; obtain ⟨rfl, rfl, _⟩ := (by simpa using e4 : b3 = b4 ∧ off3 = off4); rw [unhide HX] at hx4; obtain rfl := Option.some.inj hx4; clear hx4 e4)
          · have hps : p + x + gap = xAt ws gap M (k + 1) := by rw [xAt_mid (by rw [← unhide HWL]; exact hmid) (unhide HX), ← unhide hp]
            have HPS := hide hps
            clear hps
            go_roundw
            case rel => exact ⟨k + 1, p + x + gap, A6, c6, acc ++ [p], by omega, by go_num, rfl, HPS, by omega, by omega, by simp, HL8, HAC, O6, ⟨_, X6⟩, hbs6, B6⟩
            case measure => simp [intOf]; omega
          · have hps : p + x = xAt ws gap M (k + 1) := by
              have hkk : M = k + 1 := by rw [← unhide HWL]; omega
              have := unhide hp
              rw [hkk] at this ⊢
              rw [xAt_end (unhide HX), ← this]
            have HPS := hide hps
            clear hps
            go_roundw
            case rel => exact ⟨k + 1, p + x, A6, c6, acc ++ [p], by omega, by go_num, rfl, HPS, by omega, by omega, by simp, HL8, HAC, O6, ⟨_, X6⟩, hbs6, B6⟩
            case measure => simp [intOf]; omega
        · have hkl : ws.length = k := by omega
          have hkM : M = k := by rw [← unhide HWL]; exact hkl
          have hfin : p = ws.sum + gap * ((M : Int) - 1) := by
            rw [unhide hp, xAt, if_pos hkM.symm, List.take_of_length_le (by omega)]
          have hne : acc.length ≠ 0 := by rw [unhide HAL]; omega
          have hne2 : ((acc.length : Int) == 0) = false := by simp; intro e; exact hne (by simp [e])
          have hacM : placesOf ws gap M = acc := by rw [hkM]; exact (unhide hacc).symm
          have HF := hide hfin
          have HAM := hide hacM
          clear hfin hkl hkM hacM
          go_wp2
          go_ret2
          rw [unhide HP, unhide HW, unhide HAM, ← unhide HF]
          exact ⟨_, _, rfl, own_base O hs3, B⟩
end Go.Proofs.Ytdjilkohnhejiaa
