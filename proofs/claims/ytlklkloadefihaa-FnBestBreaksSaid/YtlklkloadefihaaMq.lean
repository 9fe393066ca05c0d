/- Drawing patterns and lists of items. · Drawing lists of items. No condition. -/
import Derived.Test.YtlklkloadefihaaMg
import Derived.Test.YtlklkloadefihaaMp
namespace Go.Proofs.Ytlklkloadefihaa
open Go.RowKit
set_option linter.unusedVariables false

theorem size_snoc1 {ss : List ByteArray} {t : ByteArray} (h : ∀ t ∈ ss, t.size ≤ 20) (h2 : t.size ≤ 20) : ∀ u ∈ ss ++ [t], u.size ≤ 20 := by
  intro u hu
  rcases List.mem_append.1 hu with hu | hu
  · exact h u hu
  · rw [List.mem_singleton.1 hu]; exact h2
set_option maxHeartbeats 1600000 in
theorem r_patterns0 (g m : Nat) (w : World) (h : Rdr w g m) (hm : m ≤ 700000) :
    Calls Try.prog 71 #[.pointer (some ⟨g, 0, none⟩), .int .i64 0] w fun e w' => ∃ (A : Option Addr) (c : Nat) (ss : List ByteArray), e = .returned (.slice A ss.length c) ∧ (∀ t ∈ ss, t.size ≤ 20) ∧ OwnS w' w.heap.size A c ss ∧ Rdr w' g (m + 20) ∧ w.grownBy w' (some g) := by
  have D0 := DSt.begin_ h
  have D := D0.alloc (.cells #[] 9)
  have O := OwnS.fresh w
  clear D0 h
  go_enter Try.func71, Try.ntmps71
  go_wp2_with fail
  refine (r_pick g m _ _ D.rd (by omega)).mono ?_
  rintro e w2 ⟨x2, rfl, hx2, hr, hg⟩
  replace O := O.pick hg D.lt
  replace D := D.pick hr hg
  clear hr hg
  have hx22 : x2 ≤ 6 := by omega
  clear hx2
  go_wp2_with fail
  go_loopw [5, 6] (fun v i wr => ∃ (k : Nat) (A : Option Addr) (c : Nat) (ss : List ByteArray), k ≤ 6 ∧ i = .int .i64 k ∧ v = .slice A ss.length c ∧ ss.length + k ≤ 6 ∧ (∀ t ∈ ss, t.size ≤ 20) ∧ OwnS wr w.heap.size A c ss ∧ DSt w g (m + 1 + ss.length * 2) wr) (fun _ i _ => (intOf i).toNat)
  case atStart => exact ⟨x2, _, _, [], hx22, rfl, rfl, by simpa using hx22, by simp, O, D⟩
  case round =>
    clear O D hx22
    obtain ⟨k, A, c, ss, hk, rfl, rfl, hrk, hsz, O, D⟩ := hrel
    by_cases hlt : 0 < k
    · go_wp2_with fail
      refine (r_pattern0 g _ _ D.rd (by omega)).mono ?_
      rintro e w3 ⟨s, rfl, hs, hr, hg⟩
      replace O := O.pick hg D.lt
      replace D := D.pick hr hg
      clear hr hg
      have hgs := D.gr.size
      go_wp2_with (at_builtin; refine wpList_push_S s rfl rfl O rfl rfl rfl (by omega) hgs ?_; intro A6 c6 w6 O6 hg6 hpre _)
      replace D := (D.alloc (.cells #[.string s] 9)).push hpre hg6
      clear hg6 hpre O hgs
      go_wp2
      go_roundw
      case rel => exact ⟨k - 1, A6, c6, ss ++ [s], by omega, by go_num, by simp, by simp; omega, size_snoc1 hsz hs, O6, D.more (by simp; omega)⟩
      case measure => simp [intOf]; omega
    · go_wp2_with fail
      refine (r_odd g _ 0 _ D.rd (by omega) (by omega)).mono ?_
      rintro e w4 ⟨b, rfl, hb, hr, hg⟩
      obtain rfl := hb rfl
      replace O := O.pick hg D.lt
      replace D := D.pick hr hg
      go_wp2
      go_ret
      exact ⟨_, _, ss, rfl, hsz, O, D.rd.mono (by omega), D.gr⟩
end Go.Proofs.Ytlklkloadefihaa

namespace Go.Proofs.Ytlklkloadefihaa
open Go.RowKit
set_option linter.unusedVariables false

set_option maxRecDepth 100000 in
set_option maxHeartbeats 3200000 in
theorem r_items (g m : Nat) (N : Nat) (w : World) (h : Rdr w g m) (hm : m ≤ 600000) (hN : N ≤ 1000000) :
    Calls Try.prog 40 #[.pointer (some ⟨g, 0, none⟩), .int .i64 N] w fun e w' => ∃ (A : Option Addr) (c : Nat) (rs : List Item), e = .returned (.slice A rs.length c) ∧ rs.length ≤ 70 ∧ OwnT w' w.heap.size A c rs ∧ Rdr w' g (m + 900) ∧ w.grownBy w' (some g) := by
  obtain ⟨i0, hi, hz0, hz1, hz2⟩ := info_parts infoItem
  have D0 := DSt.begin_ h
  have D := D0.alloc (.cells #[] 51)
  have O := OwnT.fresh w
  have hgl := h.lt
  clear D0 h
  go_enter Try.func40, Try.ntmps40
  go_wp2_with fail
  refine (r_pick g m _ _ D.rd (by omega)).mono ?_
  rintro e w2 ⟨x2, rfl, hx2, hr, hg⟩
  replace O := O.pick hg D.lt
  replace D := D.pick hr hg
  clear hr hg
  go_upto_if 12 with fail
  go_cut [5] (fun v wx => ∃ (A : Option Addr) (c : Nat) (rs : List Item), v = .slice A rs.length c ∧ rs.length ≤ 60 ∧ OwnT wx w.heap.size A c rs ∧ DSt w g (m + 700) wx)
  case first =>
    by_cases h2 : x2 = 0
    · have hz : ((x2 : Int) == 0) = true := by simp [h2]
      clear hx2
      have hws := D.gr.size
      have W : OwnS (w2.alloc (.cells #[] 9)) w.heap.size (some ⟨w2.heap.size, 0, none⟩) 0 [] := own_base (OwnS.fresh w2) hws
      replace D := D.alloc (.cells #[] 9)
      clear O hws
      go_wp2_with fail
      refine (r_pick g _ _ _ D.rd (by omega)).mono ?_
      rintro e w3 ⟨x3, rfl, hx3, hr, hg⟩
      replace W := W.pick hg D.lt
      replace D := D.pick hr hg
      clear hr hg
      have hx36 : x3 + 1 ≤ 6 := by omega
      clear hx3
      go_wp2_with fail
      go_loopw [6, 7] (fun v i wr => ∃ (k : Nat) (A : Option Addr) (c : Nat) (ss : List ByteArray), k ≤ 6 ∧ i = .int .i64 k ∧ v = .slice A ss.length c ∧ ss.length + k ≤ 6 ∧ (∀ t ∈ ss, t.size ≤ 20) ∧ OwnS wr w.heap.size A c ss ∧ DSt w g (m + 2 + ss.length * 20) wr) (fun _ i _ => (intOf i).toNat)
      case atStart => exact ⟨x3 + 1, _, _, [], hx36, by go_num, rfl, by simpa using hx36, by simp, W, D⟩
      case round =>
        clear W D hx36
        obtain ⟨k, A, c, ss, hk, rfl, rfl, hrk, hsz, W, D⟩ := hrel
        by_cases hlt : 0 < k
        · go_wp2_with fail
          refine (r_text0 g _ _ D.rd (by omega)).mono ?_
          rintro e w4 ⟨s, rfl, hs, hr, hg⟩
          replace W := W.pick hg D.lt
          replace D := D.pick hr hg
          clear hr hg
          have hgs := D.gr.size
          go_wp2_with (at_builtin; refine wpList_push_S s rfl rfl W rfl rfl rfl (by omega) hgs ?_; intro A6 c6 w6 W6 hg6 hpre _)
          replace D := (D.alloc (.cells #[.string s] 9)).push hpre hg6
          clear hg6 hpre W hgs
          go_wp2
          go_roundw
          case rel => exact ⟨k - 1, A6, c6, ss ++ [s], by omega, by go_num, by simp, by simp; omega, size_snoc1 hsz hs, W6, D.more (by simp; omega)⟩
          case measure => simp [intOf]; omega
        · have hssl : ss.length ≤ 6 := by omega
          replace D : DSt w g (m + 150) _ := D.more (by omega)
          clear hrk
          go_wp2_with fail
          refine (r_patterns0 g _ _ D.rd (by omega)).mono ?_
          rintro e w5 ⟨A5, c5, ps, rfl, hps, P5, hr, hg⟩
          replace W := W.pick hg D.lt
          replace D := D.pick hr hg
          clear hr hg
          have hgs := D.gr.size
          go_wp2_with fail
          refine (s_paragraphItems A ss.length c ss A5 ps.length c5 ps _ W.at_ (fun t ht => by have := hsz t ht; omega) P5.at_ (fun t ht => by have := hps t ht; omega)).mono ?_
          rintro e w6 ⟨A6, c6, rs, b6, rfl, O6, hl6, hb6⟩
          have O7 : OwnT w6 w.heap.size A6 c6 rs := own_base O6 hgs
          replace D := D.next hb6
          clear O6 hb6 W P5 hps hsz hgs
          go_wp2
          go_meet
          exact ⟨A6, c6, rs, rfl, hl6, O7, D.more (by omega)⟩
    · have hz : ((x2 : Int) == 0) = false := by simp; omega
      clear hx2
      go_wp2_with fail
      refine (r_pick g _ _ _ D.rd (by omega)).mono ?_
      rintro e w3 ⟨x3, rfl, hx3, hr, hg⟩
      replace O := O.pick hg D.lt
      replace D := D.pick hr hg
      clear hr hg
      have hx39 : x3 ≤ 9 := by omega
      clear hx3
      go_wp2_with fail
      go_loopw [5, 8] (fun v i wr => ∃ (k : Nat) (A : Option Addr) (c : Nat) (rs : List Item), k ≤ 9 ∧ i = .int .i64 k ∧ v = .slice A rs.length c ∧ rs.length + k ≤ 9 ∧ OwnT wr w.heap.size A c rs ∧ DSt w g (m + 2 + rs.length * 60) wr) (fun _ i _ => (intOf i).toNat)
      case atStart => exact ⟨x3, _, _, [], hx39, rfl, rfl, by simpa using hx39, O, D⟩
      case round =>
        clear O D hx39
        obtain ⟨k, A, c, rs, hk, rfl, rfl, hrk, O, D⟩ := hrel
        by_cases hlt : 0 < k
        · go_wp2_with fail
          refine (r_item g _ 0 _ D.rd (by omega) (by omega)).mono ?_
          rintro e w4 ⟨q, rfl, hr, hg⟩
          replace O := O.pick hg D.lt
          replace D := D.pick hr hg
          clear hr hg
          have hgs := D.gr.size
          go_wp2_with (at_builtin; refine wpList_push_T (w0 := w) q rfl rfl O rfl rfl (by omega) hgs ?_; intro A6 c6 w6 O6 hg6 hpre)
          replace D := (D.alloc (.cells #[.int .i64 q.kind, .int .i64 q.w, .int .i64 q.st, .int .i64 q.sh, .int .i64 q.od, .int .i64 q.cost, .bool q.mark] 51)).push hpre hg6
          clear hg6 hpre O hgs
          go_wp2
          go_roundw
          case rel => exact ⟨k - 1, A6, c6, rs ++ [q], by omega, by go_num, by simp, by simp; omega, O6, D.more (by simp; omega)⟩
          case measure => simp [intOf]; omega
        · have hrl : rs.length ≤ 9 := by omega
          have hgs := D.gr.size
          go_wp2_with (at_builtin; refine wpList_push_Tr rfl rfl (World.ownsRow.alloc O _) (xs := [⟨2, 0, 1, 0, 1, 0, false⟩, ⟨3, 0, 0, 0, 0, -10000, false⟩]) (n2 := 2) (c2 := 2) (A2 := some ⟨wr.heap.size, 0, none⟩) ⟨rd_new wr 51 _ 2 7 rfl, by omega, by omega⟩ rfl rfl (by omega) (by simp; omega) ?_; intro A5 c5 w5 O5 hg5; have D5 := (D.alloc _).push (World.ownsRow.alloc O _) hg5)
          go_meet
          exact ⟨A5, c5, rs ++ [⟨2, 0, 1, 0, 1, 0, false⟩, ⟨3, 0, 0, 0, 0, -10000, false⟩], by simp, by simp; omega, O5, D5.more (by omega)⟩
  case rest =>
    clear D O
    obtain ⟨A, c, rs, rfl, hl, O, D⟩ := hcut
    go_wp2_with fail
    refine (r_odd g _ N _ D.rd (by omega) hN).mono ?_
    rintro e w3 ⟨b3, rfl, _, hr, hg⟩
    replace O := O.pick hg D.lt
    replace D := D.pick hr hg
    clear hr hg
    cases b3
    · go_wp2
      go_ret
      exact ⟨_, _, rs, rfl, by omega, O, D.rd.mono (by omega), D.gr⟩
    · go_wp2_with fail
      refine (r_pick g _ _ _ D.rd (by omega)).mono ?_
      rintro e w4 ⟨x4, rfl, hx4, hr, hg⟩
      replace O := O.pick hg D.lt
      replace D := D.pick hr hg
      clear hr hg hx4
      have hgs := D.gr.size
      by_cases h4 : x4 = 0
      · have hz4 : ((x4 : Int) == 0) = true := by simp [h4]
        go_wp2_with (at_make; refine wpList_make_full _ rfl _ _ 23 rfl w.heap.size 51 i0 (.agg #[.int .i64 0, .int .i64 0, .int .i64 0, .int .i64 0, .int .i64 0, .int .i64 0, .bool false]) 7 Try.underlying23 hi hz0 hz1 .i64 .i64 61 61 61 rfl rfl rfl rfl ?b2 ?b3 hgs ?_)
        case b2 => rw [hz2]; omega
        case b3 => unfold maxLen; omega
        intro w6 O6 hg6
        have D7 : DSt w g _ w6 := D.push (v := .slice none 0 0) (World.ownsRow_nil w4 w.heap.size 51 7) hg6
        have O7 : OwnT w6 w.heap.size (some ⟨w4.heap.size, 0, none⟩) 61 (List.replicate 61 ⟨0, 0, 0, 0, 0, 0, false⟩) := by
          have e : (madeCells #[.int .i64 0, .int .i64 0, .int .i64 0, .int .i64 0, .int .i64 0, .int .i64 0, .bool false] 427).toList = (List.replicate 61 (⟨0, 0, 0, 0, 0, 0, false⟩ : Item)).flatMap Item.cells := by kernel_rfl
          rw [e] at O6; exact O6
        go_wp2
        go_ret
        exact ⟨_, _, List.replicate 61 ⟨0, 0, 0, 0, 0, 0, false⟩, by simp, by simp, O7, D7.rd.mono (by omega), D7.gr⟩
      · have hz4 : ((x4 : Int) == 0) = false := by simp; omega
        go_wp2_with fail
        refine (r_item g _ 1 _ D.rd (by omega) (by omega)).mono ?_
        rintro e w5 ⟨q, rfl, hr, hg⟩
        replace O := O.pick hg D.lt
        replace D := D.pick hr hg
        clear hr hg hgs
        have hgs := D.gr.size
        go_wp2_with (at_builtin; refine wpList_push_T (w0 := w) q rfl rfl O rfl rfl (by omega) hgs ?_; intro A6 c6 w6 O6 hg6 hpre)
        replace D := (D.alloc (.cells #[.int .i64 q.kind, .int .i64 q.w, .int .i64 q.st, .int .i64 q.sh, .int .i64 q.od, .int .i64 q.cost, .bool q.mark] 51)).push hpre hg6
        go_ret
        exact ⟨_, _, rs ++ [q], by simp, by simp; omega, O6, D.rd.mono (by omega), D.gr⟩
end Go.Proofs.Ytlklkloadefihaa
