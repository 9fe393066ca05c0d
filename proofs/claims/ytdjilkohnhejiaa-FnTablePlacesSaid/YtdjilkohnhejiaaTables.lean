/- The widths of a table's columns: what the functions compute, and their contracts. No condition. -/
import Derived.Test.YtdjilkohnhejiaaEntriesA
import Derived.Test.YtdjilkohnhejiaaPush
import Derived.OwnWalk
import Derived.Deep.RegionWith
namespace Go.Proofs.Ytdjilkohnhejiaa
open Go.RowKit
set_option linter.unusedVariables false

def sumFrom (ws : List Int) (a : Nat) : Int := (ws.drop a).sum
def colStep (ws : List Int) (acc : Int) (e : Entry) : Int := if e.col + e.many = (ws.length : Int) + 1 then max acc (e.width - sumFrom ws e.col.toNat) else acc
def colW (rs : List Entry) (ws : List Int) : Int := rs.foldl (colStep ws) 0
def tw (rs : List Entry) : Nat → List Int
  | 0 => []
  | c + 1 => tw rs c ++ [colW rs (tw rs c)]
theorem tw_len (rs : List Entry) : ∀ c, (tw rs c).length = c
  | 0 => rfl
  | c + 1 => by rw [tw, List.length_append, tw_len rs c]; rfl
def tableWidths (rs : List Entry) (m : Int) : List Int := if entriesValid rs m then tw rs m.toNat else []
theorem sum_bd {l : List Int} (h : ∀ x ∈ l, 0 ≤ x ∧ x ≤ 1000) : 0 ≤ l.sum ∧ l.sum ≤ 1000 * l.length := by
  induction l with
  | nil => simp
  | cons a t ih =>
    have h1 := h a (by simp)
    have h2 := ih (fun x hx => h x (by simp [hx]))
    simp only [List.sum_cons, List.length_cons]
    omega
theorem sumFrom_nonneg {ws : List Int} (h : ∀ x ∈ ws, 0 ≤ x ∧ x ≤ 1000) (a : Nat) : 0 ≤ sumFrom ws a := (sum_bd (fun x hx => h x (List.mem_of_mem_drop hx))).1
theorem col_bd {ws : List Int} (hw : ∀ x ∈ ws, 0 ≤ x ∧ x ≤ 1000) : ∀ (rs : List Entry) (acc : Int), (∀ e ∈ rs, e.width ≤ 1000) → 0 ≤ acc ∧ acc ≤ 1000 → 0 ≤ rs.foldl (colStep ws) acc ∧ rs.foldl (colStep ws) acc ≤ 1000
  | [], acc, _, h => h
  | e :: t, acc, he, h => by
    rw [List.foldl_cons]
    refine col_bd hw t _ (fun x hx => he x (by simp [hx])) ?_
    have h1 := he e (by simp)
    have h2 := sumFrom_nonneg hw e.col.toNat
    unfold colStep
    split <;> omega
theorem entries_w {rs : List Entry} {m : Int} (h : rs.all (entryOk m) = true) : ∀ e ∈ rs, 0 ≤ e.col ∧ e.col ≤ m - 1 ∧ 1 ≤ e.many ∧ e.many ≤ m - e.col ∧ 0 ≤ e.width ∧ e.width ≤ 1000 := fun e he => by
  have := (List.all_eq_true.1 h) e he
  simp only [entryOk, Bool.and_eq_true, inB_iff] at this
  omega
theorem tw_bd {rs : List Entry} (h : ∀ e ∈ rs, e.width ≤ 1000) : ∀ c, ∀ x ∈ tw rs c, 0 ≤ x ∧ x ≤ 1000
  | 0 => by simp [tw]
  | c + 1 => by
    intro x hx
    rw [tw, List.mem_append, List.mem_singleton] at hx
    rcases hx with hx | rfl
    · exact tw_bd h c x hx
    · exact col_bd (tw_bd h c) rs 0 h (by omega)
theorem valid_parts {rs : List Entry} {m : Int} (h : entriesValid rs m = true) : 1 ≤ m ∧ m ≤ 6 ∧ rs.length ≤ 20 ∧ rs.all (entryOk m) = true := by
  simp only [entriesValid, Bool.and_eq_true, decide_eq_true_eq, inB_iff] at h
  exact ⟨h.1.1.1, h.1.1.2, h.1.2, h.2⟩
theorem tableWidths_len (rs : List Entry) (m : Int) : (tableWidths rs m).length ≤ 6 := by
  unfold tableWidths
  split
  · rename_i h; have := valid_parts h; rw [tw_len]; omega
  · simp
theorem made_ints (n : Nat) : (madeCells #[.int .i64 0] n).toList = (List.replicate n (0 : Int)).map (Value.int .i64) := by
  simp only [madeCells]
  apply List.ext_getElem
  · simp
  · intro i h1 h2
    simp [Nat.mod_one]
theorem set_mid (l t : List Int) (a b : Int) : (((l ++ a :: t).map (Value.int .i64)).set l.length (.int .i64 b)) = ((l ++ b :: t).map (Value.int .i64)) := by
  simp
theorem get_mid (l t : List Int) (a : Int) : ((l ++ a :: t).map (Value.int .i64))[l.length]? = some (.int .i64 a) := by simp
theorem get_pre (l t : List Int) (a x : Int) (q : Nat) (h : l[q]? = some x) : ((l ++ a :: t).map (Value.int .i64))[q]? = some (.int .i64 x) := by
  have hq := get_lt h
  rw [List.getElem?_map, List.getElem?_append_left hq, h]; rfl

set_option maxHeartbeats 2000000 in
theorem c_tableWidths (A : Option Addr) (n c : Nat) (rs : List Entry) (m : Int) (w : World) (hR : EntriesAt w A n c rs) :
    Calls Try.prog 42 #[.slice A n c, .int .i64 m] w fun e w' => ∃ A' c', e = .returned (.slice A' (tableWidths rs m).length c') ∧ OwnI w' w.heap.size A' c' (tableWidths rs m) ∧ Below w.heap.size w w' := by
  obtain ⟨i0, hi, hz0, hz1, hz2⟩ := info_parts infoInt
  have hlen := hR.len
  have hbd := hR.bd
  cases h1 : entriesValid rs m
  · have H : Hid (tableWidths rs m = []) := by show _ = _; simp [tableWidths, h1]
    go_enter Try.func42, Try.ntmps42
    go_wp2_with fail
    refine (c_entriesValid_b h1 _ hR).mono ?_
    rintro e w1 ⟨rfl, hb1⟩
    go_wp2
    go_ret
    rw [unhide H]
    exact ⟨none, 0, rfl, OwnI.nil_ _ _, hb1⟩
  · obtain ⟨hm1, hm2, hl, hall⟩ := valid_parts h1
    obtain ⟨M, rfl⟩ := Int.eq_ofNat_of_zero_le (show 0 ≤ m by omega)
    have H : Hid (tableWidths rs (M : Int) = tw rs M) := by show _ = _; simp [tableWidths, h1]
    have hew := entries_w hall
    have HEW := hide hew
    have htb := tw_bd (rs := rs) (fun e he => (hew e he).2.2.2.2.2)
    have HTB := hide htb
    have HL := hide hlen
    clear hall hew htb hlen hl
    go_enter Try.func42, Try.ntmps42
    go_wp2_with fail
    refine (c_entriesValid_b h1 _ hR).mono ?_
    rintro e w1 ⟨rfl, hb1⟩
    clear h1
    have hR1 := hR.next hb1
    have hs1 := hb1.size
    go_wp2_with (at_make; refine wpList_make_full _ rfl _ _ 40 rfl w.heap.size 3 i0 (.int .i64 0) 1 Try.underlying40 hi hz0 hz1 .i64 .i64 M M M rfl rfl rfl rfl ?b2 ?b3 hs1 ?_)
    case b2 => rw [hz2]; omega
    case b3 => unfold maxLen; omega
    intro w2 O hg
    rw [made_ints] at O
    have B : Below w.heap.size w w2 := bnext hb1 ⟨hg.os, hg.tape, hg.output, hg.size, fun k hk => hg.block k hk (by simp)⟩
    obtain ⟨g, HG⟩ : ∃ g, Hid (g = w1.heap.size) := ⟨_, rfl⟩
    rw [← unhide HG] at O ⊢
    have hgb : w.heap.size ≤ g := by rw [unhide HG]; exact hs1
    clear HG hg hb1 hR1 hs1
    go_wp2
    go_loopw [18] (fun i wr => ∃ (cN : Nat), cN ≤ M ∧ i = .int .i64 cN ∧ wr.ownsRow w.heap.size 3 1 (.slice (some ⟨g, 0, none⟩) M M) M ((tw rs cN ++ List.replicate (M - cN) (0 : Int)).map (Value.int .i64)) ∧ Below w.heap.size w wr) (fun i _ => M - (intOf i).toNat)
    case atStart => exact ⟨0, Nat.zero_le _, rfl, O, B⟩
    case round =>
      clear O B
      obtain ⟨cN, hcM, rfl, O, B⟩ := hrel
      by_cases hc : cN < M
      · obtain ⟨ws, HWS⟩ : ∃ ws, Hid (ws = tw rs cN) := ⟨_, rfl⟩
        have hwl : ws.length = cN := by rw [unhide HWS]; exact tw_len rs cN
        have hwb : ∀ x ∈ ws, 0 ≤ x ∧ x ≤ 1000 := by rw [unhide HWS]; exact unhide HTB cN
        rw [← unhide HWS, show M - cN = (M - cN - 1) + 1 by omega, List.replicate_succ] at O
        have HWB := hide hwb
        have HWL := hide hwl
        clear hwb hwl
        go_wp2
        go_loopw [23] (fun i wr => ∃ (k : Nat) (acc : Int), k ≤ n ∧ i = .int .i64 k ∧ Hid (acc = (rs.take k).foldl (colStep ws) 0) ∧ 0 ≤ acc ∧ acc ≤ 1000 ∧ wr.ownsRow w.heap.size 3 1 (.slice (some ⟨g, 0, none⟩) M M) M ((ws ++ acc :: List.replicate (M - cN - 1) (0 : Int)).map (Value.int .i64)) ∧ Below w.heap.size w wr) (fun i _ => n - (intOf i).toNat)
        case atStart => exact ⟨0, 0, Nat.zero_le _, rfl, rfl, by omega, by omega, O, B⟩
        case round =>
          clear O B
          obtain ⟨k, acc, hk, rfl, hacc, ha0, ha1, O, B⟩ := hrel
          by_cases hlt : k < n
          · obtain ⟨b, off, r, rfl, hbl, hr, p0, p1, p2⟩ := (hR.next B).at_ hlt
            obtain ⟨hc0, hc1, hn0, hn1, hw0, hw1⟩ := unhide HEW r (mem_of_get hr)
            obtain ⟨col, many, width⟩ := r
            dsimp only at p0 p1 p2 hc0 hc1 hn0 hn1 hw0 hw1
            obtain ⟨a, rfl⟩ := Int.eq_ofNat_of_zero_le hc0
            have hst : (rs.take (k + 1)).foldl (colStep ws) 0 = colStep ws acc ⟨a, many, width⟩ := by rw [foldl_snoc hr, ← unhide hacc]
            have HST := hide hst
            clear hst hr hacc
            cases he : (((a : Int) + many - 1) != (cN : Int))
            · have he' : (a : Int) + many = (cN : Int) + 1 := by simp at he; omega
              have hac : a ≤ cN := by omega
              have O2 := World.ownsRow.alloc O (.cells #[.int .i64 a, .int .i64 many, .int .i64 width] 59)
              have B2 := bmk B (.cells #[.int .i64 a, .int .i64 many, .int .i64 width] 59)
              clear O B
              go_wp2
              go_loop [9, 10] (fun s q => ∃ (d : Nat) (sm : Int), a + d ≤ cN ∧ q = .int .i64 (a + d : Nat) ∧ s = .int .i64 sm ∧ Hid (sm = ((ws.drop a).take d).sum) ∧ 0 ≤ sm ∧ sm ≤ 1000 * (d : Int)) (fun _ q => cN - (intOf q).toNat)
              case atStart => exact ⟨0, 0, by omega, rfl, rfl, rfl, by omega, by omega⟩
              case round =>
                obtain ⟨d, sm, had, rfl, rfl, hsm, hs0, hs1⟩ := hrel
                by_cases hq : a + d < cN
                · have hx : ws[a + d]? = some (ws[a + d]'(by rw [unhide HWL]; exact hq)) := List.getElem?_eq_getElem _
                  generalize (ws[a + d]'(by rw [unhide HWL]; exact hq)) = x at hx
                  obtain ⟨hx0, hx1⟩ := unhide HWB x (mem_of_get hx)
                  have hcell := (O2.cellAt (a + d) (by omega)).trans (get_pre ws _ acc x (a + d) hx)
                  have hsn : sm + x = ((ws.drop a).take (d + 1)).sum := by
                    rw [take_snoc' (by rw [List.getElem?_drop]; exact hx), List.sum_append, ← unhide hsm]; simp
                  have HS := hide hsn
                  clear hx hsn
                  go_wp2
                  go_round
                  case rel => exact ⟨d + 1, sm + x, by omega, by go_num, rfl, HS, by omega, by omega⟩
                  case measure => simp [intOf]; omega
                · have hroom : sm = sumFrom ws a := by
                    rw [unhide hsm, List.take_of_length_le (by rw [List.length_drop, unhide HWL]; omega)]; rfl
                  have hres : colStep ws acc ⟨a, many, width⟩ = max acc (width - sm) := by
                    rw [colStep, if_pos (by rw [unhide HWL]; exact he'), hroom]; rfl
                  have hgm : ((ws ++ acc :: List.replicate (M - cN - 1) (0 : Int)).map (Value.int .i64))[cN]? = some (.int .i64 acc) := by
                    have := get_mid ws (List.replicate (M - cN - 1) (0 : Int)) acc
                    rw [unhide HWL] at this; exact this
                  have hcell := (O2.cellAt cN (by omega)).trans hgm
                  have hfz := O2.frozenAt cN
                  have HRES := hide hres
                  have hd6 : (d : Int) ≤ 6 := by omega
                  clear hroom hres hsm hgm
                  have hwr : IntKind.i64.wrap (width - sm) = width - sm := IntWalk.i64_in _ (by omega)
                  have hw2 : (wr.alloc (.cells #[.int .i64 a, .int .i64 many, .int .i64 width] 59)).cell? ⟨wr.heap.size, 2, none⟩ = some (.int .i64 width) := (Blk.new wr 59 #[.int .i64 a, .int .i64 many, .int .i64 width]).cell 2
                  have hO : ∀ y : Int, (World.setCell (World.drew (wr.alloc (.cells #[.int .i64 a, .int .i64 many, .int .i64 width] 59))) ⟨g, cN, none⟩ (.int .i64 y)).ownsRow w.heap.size 3 1 (.slice (some ⟨g, 0, none⟩) M M) M ((ws ++ y :: List.replicate (M - cN - 1) (0 : Int)).map (Value.int .i64)) := fun y => by
                    have h4 := (World.ownsRow.stored (w := World.drew (wr.alloc (.cells #[.int .i64 a, .int .i64 many, .int .i64 width] 59))) O2 cN (.int .i64 y)).1
                    have e4 := set_mid ws (List.replicate (M - cN - 1) (0 : Int)) acc y
                    rw [unhide HWL] at e4
                    rw [e4] at h4; exact h4
                  have hB : ∀ y : Int, Below w.heap.size w (World.setCell (World.drew (wr.alloc (.cells #[.int .i64 a, .int .i64 many, .int .i64 width] 59))) ⟨g, cN, none⟩ (.int .i64 y)) := fun y => B2.drew.setCell hgb _
                  have HO := hide hO
                  have HB := hide hB
                  clear hO hB
                  by_cases hmx : acc < width - sm
                  · have HY : Hid (width - sm = (rs.take (k + 1)).foldl (colStep ws) 0) := by show _ = _; rw [unhide HST, unhide HRES]; omega
                    go_wp2
                    generalize wr.alloc (.cells #[.int .i64 a, .int .i64 many, .int .i64 width] 59) = W2 at O2 B2 hcell hfz hw2 HO HB ⊢
                    go_region_with (fail)
                    all_goals
                      go_wp2
                      go_roundw
                      case rel => exact ⟨k + 1, _, by omega, by go_num, HY, by omega, by omega, unhide HO _, unhide HB _⟩
                      case measure => simp [intOf]; omega
                  · have HY : Hid (acc = (rs.take (k + 1)).foldl (colStep ws) 0) := by show _ = _; rw [unhide HST, unhide HRES]; omega
                    go_wp2
                    generalize wr.alloc (.cells #[.int .i64 a, .int .i64 many, .int .i64 width] 59) = W2 at O2 B2 hcell hfz hw2 HO HB ⊢
                    go_region_with (fail)
                    all_goals
                      go_wp2
                      go_roundw
                      case rel => exact ⟨k + 1, _, by omega, by go_num, HY, by omega, by omega, unhide HO _, unhide HB _⟩
                      case measure => simp [intOf]; omega
            · have HY : Hid (acc = (rs.take (k + 1)).foldl (colStep ws) 0) := by
                show _ = _; rw [unhide HST, colStep, if_neg]; rw [unhide HWL]; simp at he; dsimp only; omega
              go_wp2
              go_roundw
              case rel => exact ⟨k + 1, acc, by omega, by go_num, HY, by omega, by omega, World.ownsRow.alloc O _, bmk B _⟩
              case measure => simp [intOf]; omega
          · have hcol : ws ++ acc :: List.replicate (M - cN - 1) (0 : Int) = tw rs (cN + 1) ++ List.replicate (M - (cN + 1)) (0 : Int) := by
              rw [tw, ← unhide HWS, colW, unhide hacc, List.take_of_length_le (by rw [unhide HL]; omega), show M - (cN + 1) = M - cN - 1 by omega]; simp
            rw [hcol] at O
            clear hcol hacc
            go_wp2
            go_roundw
            case rel => exact ⟨cN + 1, by omega, by go_num, O, B⟩
            case measure => simp [intOf]; omega
      · obtain rfl : M = cN := by omega
        rw [Nat.sub_self, List.replicate_zero, List.append_nil] at O
        go_wp2
        go_ret
        rw [unhide H]
        refine ⟨some ⟨g, 0, none⟩, M, by rw [tw_len] <;> rfl, ?_, B⟩
        unfold OwnI
        rw [tw_len]; exact O
end Go.Proofs.Ytdjilkohnhejiaa
