/- Letters and levels of patterns of the reference: what is known of their results. · Levels of a word's places, of the reference: what is known of the result. · Places of hyphens in a word and the parts of a word, of the reference: what is known of their results. · The items of a word and of a paragraph, of the reference: what is known of their results. · The items of a paragraph, of the reference: what is known of the result. No condition. -/
import Derived.Test.YtlklkloadefihaaMd
import Derived.Test.YtlklkloadefihaaMa
namespace Go.Proofs.Ytlklkloadefihaa
open Go.RowKit
set_option linter.unusedVariables false

theorem OwnI.fresh' (w : World) : OwnI (w.alloc (.cells #[] 3)) w.heap.size (some ⟨w.heap.size, 0, none⟩) 0 [] := World.ownsRow_made w #[] 0 (Nat.le_refl _) (Nat.zero_le _) rfl
theorem wpList_push_Ib {ops : Array Oper} {rest : List Oper} {o : Oper} {a : Act} {Q : Exit → Act → World → Prop} {B : Nat} {w : World} {s x : Operand} {A : Option Addr} {c : Nat} {rs : List Int} {H : Nat} (r : Int) (hw : o.guard = none)
    (ho : o.op = .call { callee := .builtin .append, args := #[s, x], argTypes := #[34, 34] }) (hown : OwnI w B A c rs) (hs : a.eval s = .slice A rs.length c) (hx : a.eval x = .slice (some ⟨H, 0, none⟩) 1 1) (hH : w.heap.size = H) (hlen : rs.length ≤ 1000000000) (hB : B ≤ w.heap.size)
    (h : ∀ A' c' w', OwnI w' B A' c' (rs ++ [r]) → (w.alloc (.cells #[.int .i64 r] 3)).grownBy w' (Value.slice A rs.length c).ownBlock → (OwnI (w.alloc (.cells #[.int .i64 r] 3)) B A c rs) → wpList Try.prog ops Q rest (a.put o.dst (.slice A' (rs.length + 1) c')) w') :
    wpList Try.prog ops Q (o :: rest) a (w.alloc (.cells #[.int .i64 r] 3)) := by
  subst hH
  obtain ⟨i0, hi, hz0, hz1, hz2⟩ := info_parts infoInt
  have ho2 : OwnI (w.alloc (.cells #[.int .i64 r] 3)) B A c rs := World.ownsRow.alloc hown _
  refine wpList_append_own _ hw s x 34 ho B 3 i0 _ 1 8 Try.underlying34 hi hz0 hz1 hz2 rfl (by decide) _ _ _ hs ho2 ⟨w.heap.size, 0, none⟩ 1 1 [.int .i64 r] hx rfl (one_new _ _ _) (one_one _) (by unfold maxLen; omega) (by omega) (by simp; omega) ?_
  intro v3 w3 hown3 hg3 _
  have hown4 : w3.ownsRow B 3 1 v3 (rs.length + 1) ((rs ++ [r]).map (Value.int .i64)) := by rw [List.map_append]; exact hown3
  obtain ⟨A4, c4, rfl, hl4, hown5⟩ := OwnI.of hown4
  have := h A4 c4 w3 hown5 hg3 ho2
  simpa using this
set_option maxHeartbeats 1600000 in
theorem s_patternLetters (s : ByteArray) (hs : s.size ≤ 1000) (w : World) :
    Calls Try.prog 105 #[.string s] w fun e w' => ∃ t : ByteArray, e = .returned (.string t) ∧ t.size ≤ s.size ∧ w' = w := by
  go_enter Try.func105, Try.ntmps105
  go_wp2
  go_loop [3, 4] (fun o i => ∃ (k : Nat) (t : ByteArray), k ≤ s.size ∧ i = .int .i64 k ∧ o = .string t ∧ t.size ≤ k) (fun _ i => s.size - (intOf i).toNat)
  case atStart => exact ⟨0, _, Nat.zero_le _, rfl, rfl, Nat.zero_le _⟩
  case round =>
    obtain ⟨k, t, hk, rfl, rfl, ht⟩ := hrel
    by_cases hlt : k < s.size
    · go_wp2_with fail
      refine (s_patternValid s (by omega) w).mono ?_
      rintro e w' (⟨rfl, rfl⟩ | ⟨rfl, hp, rfl⟩)
      · go_wp2
        go_ret
        exact ⟨_, rfl, by omega, rfl⟩
      · go_wp2
        all_goals
          first
          | (go_round
             case rel => exact ⟨k + 1, t, by omega, by go_num, rfl, by omega⟩
             case measure => simp [intOf]; omega)
          | (go_round
             case rel => exact ⟨k + 1, t ++ s.extract k (k + 1), by omega, by go_num, by first | rfl | simp, by rw [ByteArray.size_append, ByteArray.size_extract]; omega⟩
             case measure => simp [intOf]; omega)
    · go_wp2
      go_ret
      exact ⟨_, rfl, by omega, rfl⟩
set_option maxHeartbeats 1600000 in
theorem s_patternLevels (s : ByteArray) (hs : s.size ≤ 1000) (w : World) :
    Calls Try.prog 106 #[.string s] w fun e w' => ∃ A' c' xs, e = .returned (.slice A' xs.length c') ∧ OwnI w' w.heap.size A' c' xs ∧ xs.length ≤ s.size + 1 ∧ Below w.heap.size w w' := by
  go_enter Try.func106, Try.ntmps106
  go_wp2
  go_loopw [3, 4, 5] (fun o l i wr => ∃ (k : Nat) (L : Int) (A' : Option Addr) (c' : Nat) (xs : List Int), k ≤ s.size ∧ i = .int .i64 k ∧ l = .int .i64 L ∧ o = .slice A' xs.length c' ∧ xs.length ≤ k ∧ OwnI wr w.heap.size A' c' xs ∧ Below w.heap.size w wr) (fun _ _ i _ => s.size - (intOf i).toNat)
  case atStart => exact ⟨0, 0, _, _, [], Nat.zero_le _, rfl, rfl, rfl, Nat.zero_le _, OwnI.fresh' w, bof _ _⟩
  case round =>
    obtain ⟨k, L, A', c', xs, hk, rfl, rfl, rfl, hl, O, hb⟩ := hrel
    have hbs := hb.size
    by_cases hlt : k < s.size
    · go_wp2_with fail
      refine (s_patternValid s (by omega) wr).mono ?_
      rintro e w' (⟨rfl, rfl⟩ | ⟨rfl, hp, rfl⟩)
      · go_wp2_with fail
        refine (s_patternValid s (by omega) _).mono ?_
        rintro e w' (⟨rfl, rfl⟩ | ⟨rfl, hp, rfl⟩)
        · go_wp2
          go_ret
          exact ⟨_, _, [], rfl, own_base (OwnI.fresh' _) hbs, by simp, bmk hb _⟩
        · go_wp2_with (at_builtin; refine wpList_push_Ib L rfl rfl O rfl rfl rfl (by omega) (by omega) ?_; intro A3 c3 w3 O3 hg3 hpre)
          have B3 := b_own (bmk hb _) hpre (Nat.le_refl _) hg3
          go_wp2
          go_ret
          exact ⟨_, _, xs ++ [L], by simp, O3, by simp; omega, B3⟩
      · go_wp2_with (at_builtin; refine wpList_push_Ib L rfl rfl O rfl rfl rfl (by omega) (by omega) ?_; intro A3 c3 w3 O3 hg3 hpre; have B3 := b_own (bmk hb _) hpre (Nat.le_refl _) hg3; clear hpre hg3)
        all_goals
          first
          | (go_roundw
             case rel => exact ⟨k + 1, _, A', c', xs, by omega, by go_num, rfl, rfl, by omega, O, hb⟩
             case measure => simp [intOf]; omega)
          | (go_wp2
             go_roundw
             case rel => exact ⟨k + 1, 0, A3, c3, xs ++ [L], by omega, by go_num, rfl, by simp, by simp; omega, O3, B3⟩
             case measure => simp [intOf]; omega)
    · go_wp2_with fail
      refine (s_patternValid s (by omega) _).mono ?_
      rintro e w' (⟨rfl, rfl⟩ | ⟨rfl, hp, rfl⟩)
      · go_wp2
        go_ret
        exact ⟨_, _, [], rfl, own_base (OwnI.fresh' _) hbs, by simp, bmk hb _⟩
      · go_wp2_with (at_builtin; refine wpList_push_Ib L rfl rfl O rfl rfl rfl (by omega) (by omega) ?_; intro A3 c3 w3 O3 hg3 hpre)
        have B3 := b_own (bmk hb _) hpre (Nat.le_refl _) hg3
        go_wp2
        go_ret
        exact ⟨_, _, xs ++ [L], by simp, O3, by simp; omega, B3⟩
end Go.Proofs.Ytlklkloadefihaa

namespace Go.Proofs.Ytlklkloadefihaa
open Go.RowKit
set_option linter.unusedVariables false

theorem own_setfar {w : World} {B e sz n : Nat} {v : Value} {xs : List Value} (h : w.ownsRow (B + 1) e sz v n xs) (k : Nat) (u : Value) : ((w.setCell ⟨B, k, none⟩ u).drew).ownsRow (B + 1) e sz v n xs :=
  World.ownsRow.kept h (gdrew (gset (grefl w (some B)) (.inl rfl) u)) (.inr (fun e => by have := (h.lt _ e).1; omega))
set_option maxRecDepth 100000 in
set_option maxHeartbeats 1600000 in
theorem s_wordLevels (s : ByteArray) (A : Option Addr) (n c : Nat) (ps : List ByteArray) (w : World) (hs : s.size ≤ 1000) (hR : StrsAt w A n c ps) (hps : ∀ p ∈ ps, p.size ≤ 1000) :
    Calls Try.prog 103 #[.string s, .slice A n c] w fun e w' => ∃ A' c' xs, e = .returned (.slice A' xs.length c') ∧ OwnI w' w.heap.size A' c' xs ∧ xs.length ≤ s.size + 1 ∧ Below w.heap.size w w' := by
  obtain ⟨i0, hi, hz0, hz1, hz2⟩ := info_parts infoInt
  have hbd := hR.bd
  go_enter Try.func103, Try.ntmps103
  go_wp2_with fail
  refine (s_wordValid s (by omega) w).mono ?_
  rintro e w (⟨rfl, rfl⟩ | ⟨rfl, hp, rfl⟩)
  · go_wp2
    go_ret
    exact ⟨_, _, [], rfl, OwnI.fresh' _, by simp, bof _ _⟩
  go_wp2_with fail
  refine (s_patternsValid A n c ps _ hR hps).mono ?_
  rintro e w (⟨rfl, rfl⟩ | ⟨rfl, hp2, rfl⟩)
  · go_wp2
    go_ret
    exact ⟨_, _, [], rfl, OwnI.fresh' _, by simp, bof _ _⟩
  obtain ⟨m, hm⟩ : ∃ m, m = s.size + 1 := ⟨_, rfl⟩
  have hw1 : IntKind.i64.wrap ((s.size : Int) + 1) = (m : Int) := by rw [hm]; exact IntWalk.i64_in _ (by omega)
  have HM := hide hm
  have hm2 : m ≤ 21 := by omega
  clear hm
  go_wp2_with (at_make; refine wpList_make_full _ rfl _ _ 34 rfl w.heap.size 3 i0 (.int .i64 0) 1 Try.underlying34 hi hz0 hz1 .i64 .i64 (m : Int) (m : Int) m rfl rfl rfl rfl ?b2 ?b3 (Nat.le_refl _) ?_)
  case b2 => rw [hz2]; omega
  case b3 => unfold maxLen; omega
  intro w2 L hg1
  have hb2 : Below w.heap.size w w2 := ⟨hg1.os, hg1.tape, hg1.output, hg1.size, fun k hk => hg1.block k hk (by simp)⟩
  have O : IntRow w2 w.heap.size w.heap.size m (List.replicate m 0) := by
    unfold IntRow; rw [← made_ints]; exact L
  clear L hg1
  generalize List.replicate m (0 : Int) = xs at O
  go_wp2
  have hdz : (ByteArray.mk #[46] ++ s ++ ByteArray.mk #[46]).size ≤ 30 := by
    rw [ByteArray.size_append, ByteArray.size_append, show (ByteArray.mk #[46]).size = 1 from rfl]; omega
  generalize (ByteArray.mk #[46] ++ s ++ ByteArray.mk #[46]) = d at hdz ⊢
  go_loopw [7] (fun i wr => ∃ (k : Nat) (xs : List Int), k ≤ n ∧ i = .int .i64 k ∧ IntRow wr w.heap.size w.heap.size m xs ∧ Below w.heap.size w wr) (fun i _ => n - (intOf i).toNat)
  case atStart => exact ⟨0, xs, Nat.zero_le _, rfl, O, hb2⟩
  case round =>
    clear O hb2
    obtain ⟨k, xs, hk, rfl, O, hb⟩ := hrel
    have hbs := hb.size
    have hgo0 := O.lt
    have R := hR.next hb
    by_cases hlt : k < n
    · obtain ⟨b, off, p, rfl, hbl, hpx, hc⟩ := R.at_ hlt
      have hps1 := hps p (mem_of_get hpx)
      clear hpx
      go_wp2_with fail
      refine (s_patternLetters p (by omega) _).mono ?_
      rintro e wr ⟨t, rfl, ht, rfl⟩
      go_wp2_with fail
      refine (s_patternLevels p (by omega) _).mono ?_
      rintro e w3 ⟨A3, c3, ls, rfl, O3, hl3, hb3⟩
      replace O := O.next hb3
      replace hb := bnext hb hb3
      have I3 : OwnI w3 (w.heap.size + 1) A3 c3 ls := own_base O3 (by omega)
      clear hb3 hc O3 R hbs hgo0
      have hlsl : ls.length ≤ 1001 := by omega
      have htl : t.size ≤ 1000 := by omega
      clear hl3 ht hps1
      have HT : Hid (d.size ≤ 30) := hdz
      go_wp2
      go_loopw [10] (fun i wr => ∃ (q : Nat) (xs : List Int), q ≤ 31 ∧ i = .int .i64 q ∧ IntRow wr w.heap.size w.heap.size m xs ∧ OwnI wr (w.heap.size + 1) A3 c3 ls ∧ Below w.heap.size w wr) (fun i _ => 31 - (intOf i).toNat)
      case atStart => exact ⟨0, xs, by omega, rfl, O, I3, hb⟩
      case round =>
        clear O I3 hb hbl
        obtain ⟨q, xs, hq, rfl, O, I3, hb⟩ := hrel
        obtain ⟨u, hu⟩ : ∃ u, u = q + t.size := ⟨_, rfl⟩
        have hwu : IntKind.i64.wrap ((q : Int) + (t.size : Int)) = (u : Int) := by rw [hu]; exact IntWalk.i64_in _ (by omega)
        have hqu : q ≤ u := by omega
        have HU := hide hu
        clear hu
        by_cases hqt : u ≤ d.size
        · have hqi : (u : Int) ≤ (d.size : Int) := by omega
          have hqi2 : (q : Int) ≤ (u : Int) := by omega
          have hq2 : q + 1 ≤ 31 := by have := unhide HT; have := unhide HU; omega
          clear HU HT
          cases heq : ((d.extract q u).toList == t.toList)
          · go_wp2
            go_roundw
            case rel => exact ⟨q + 1, xs, by omega, by go_num, O, I3, hb⟩
            case measure => simp [intOf]; omega
          · go_wp2
            go_loopw [11] (fun i wr => ∃ (j : Nat) (xs : List Int), j ≤ ls.length ∧ i = .int .i64 j ∧ IntRow wr w.heap.size w.heap.size m xs ∧ OwnI wr (w.heap.size + 1) A3 c3 ls ∧ Below w.heap.size w wr) (fun i _ => ls.length - (intOf i).toNat)
            case atStart => exact ⟨0, xs, by omega, rfl, O, I3, hb⟩
            case round =>
              clear O I3 hb
              obtain ⟨j, xs, hj, rfl, O, I3, hb⟩ := hrel
              have hgo := O.lt
              by_cases hjl : j < ls.length
              · obtain ⟨b3, off3, y, rfl, hb3l, hyx, hc3⟩ := I3.at_.at_ hjl
                clear hyx
                cases hin : inB ((q : Int) + (j : Int) - 1) 0 (s.size : Int)
                · go_wp2_with (go_at_call 47; refine (c_l1In _ _ _ _).mono ?_; rintro e w' ⟨rfl, rfl⟩)
                  go_roundw
                  case rel => exact ⟨j + 1, xs, by omega, by go_num, O, I3, hb⟩
                  case measure => simp [intOf]; omega
                · obtain ⟨z, hz⟩ : ∃ z : Nat, (q : Int) + (j : Int) - 1 = (z : Int) := ⟨((q : Int) + (j : Int) - 1).toNat, by have := inB_iff.1 hin; omega⟩
                  have hzm : z < m := by have := inB_iff.1 hin; have := unhide HM; omega
                  obtain ⟨z1, hz1'⟩ : ∃ z1 : Nat, z1 = q + j := ⟨_, rfl⟩
                  have hw3 : IntKind.i64.wrap ((q : Int) + (j : Int)) = (z1 : Int) := by rw [hz1']; exact IntWalk.i64_in _ (by omega)
                  have hw4 : IntKind.i64.wrap ((z1 : Int) - 1) = (z : Int) := by rw [hz1', IntWalk.i64_in _ (by omega)]; omega
                  clear hz1'
                  rw [hz] at hin
                  obtain ⟨x, hx⟩ : ∃ x, xs[z]? = some x := ⟨xs[z]'(by rw [O.len]; exact hzm), List.getElem?_eq_getElem _⟩
                  have hcz := O.cell hx
                  have hfz := O.fz z
                  have hzs : (z : Int) < (m : Int) := by omega
                  clear hz hx
                  go_wp2_with (go_at_call 47; refine (c_l1In _ _ _ _).mono ?_; rintro e w' ⟨rfl, rfl⟩)
                  have hcz2 : wr.cell? ⟨w.heap.size, 0 + z, none⟩ = some (.int .i64 x) := by rw [Nat.zero_add]; exact hcz
                  by_cases hxy : x < y
                  · go_region
                    all_goals
                      have O4 : IntRow ((wr.setCell ⟨w.heap.size, z, none⟩ (.int .i64 y)).drew) w.heap.size w.heap.size m (xs.set z y) := O.put z y
                      have I4 : OwnI ((wr.setCell ⟨w.heap.size, z, none⟩ (.int .i64 y)).drew) (w.heap.size + 1) (some ⟨b3, off3, none⟩) c3 ls := own_setfar I3 _ _
                      have hb4 : Below w.heap.size w ((wr.setCell ⟨w.heap.size, z, none⟩ (.int .i64 y)).drew) := (b_put hb (Nat.le_refl _) _).drew
                      generalize World.drew (wr.setCell ⟨w.heap.size, z, none⟩ (.int .i64 y)) = w4 at O4 I4 hb4 ⊢
                      clear O I3 hb hcz hcz2 hfz hc3 hgo
                      go_wp2
                      go_roundw
                      case rel => exact ⟨j + 1, _, by omega, by go_num, O4, I4, hb4⟩
                      case measure => simp [intOf]; omega
                  · go_region
                    all_goals
                      have O4 : IntRow ((wr.setCell ⟨w.heap.size, z, none⟩ (.int .i64 x)).drew) w.heap.size w.heap.size m (xs.set z x) := O.put z x
                      have I4 : OwnI ((wr.setCell ⟨w.heap.size, z, none⟩ (.int .i64 x)).drew) (w.heap.size + 1) (some ⟨b3, off3, none⟩) c3 ls := own_setfar I3 _ _
                      have hb4 : Below w.heap.size w ((wr.setCell ⟨w.heap.size, z, none⟩ (.int .i64 x)).drew) := (b_put hb (Nat.le_refl _) _).drew
                      generalize World.drew (wr.setCell ⟨w.heap.size, z, none⟩ (.int .i64 x)) = w4 at O4 I4 hb4 ⊢
                      clear O I3 hb hcz hcz2 hfz hc3 hgo
                      go_wp2
                      go_roundw
                      case rel => exact ⟨j + 1, _, by omega, by go_num, O4, I4, hb4⟩
                      case measure => simp [intOf]; omega
              · go_wp2
                go_roundw
                case rel => exact ⟨q + 1, xs, by omega, by go_num, O, I3, hb⟩
                case measure => simp [intOf]; omega
        · have hqi : ¬ (u : Int) ≤ (d.size : Int) := by omega
          go_wp2
          go_roundw
          case rel => exact ⟨k + 1, xs, by omega, by go_num, O, hb⟩
          case measure => simp [intOf]; omega
    · go_wp2
      go_ret
      exact ⟨some ⟨w.heap.size, 0, none⟩, m, xs, by rw [O.len]; rfl, by unfold OwnI; rw [O.len]; exact O, by rw [O.len, unhide HM]; omega, hb⟩
end Go.Proofs.Ytlklkloadefihaa

namespace Go.Proofs.Ytlklkloadefihaa
open Go.RowKit
set_option linter.unusedVariables false

/-- Numbers that ascend, none of them less than 0 or greater than hi. -/
def Asc (xs : List Int) (hi : Int) : Prop := (∀ x ∈ xs, 0 ≤ x ∧ x ≤ hi) ∧ xs.Pairwise (· ≤ ·)
theorem Asc.nil (hi : Int) : Asc [] hi := ⟨by simp, List.Pairwise.nil⟩
theorem Asc.mono {xs : List Int} {a b : Int} (h : Asc xs a) (hab : a ≤ b) : Asc xs b := ⟨fun x hx => by have := h.1 x hx; omega, h.2⟩
theorem Asc.snoc {xs : List Int} {a b : Int} (h : Asc xs a) (hab : a ≤ b) (h0 : 0 ≤ b) : Asc (xs ++ [b]) b := by
  refine ⟨fun x hx => ?_, ?_⟩
  · rcases List.mem_append.1 hx with hx | hx
    · have := h.1 x hx; omega
    · rw [List.mem_singleton.1 hx]; omega
  · rw [List.pairwise_append]
    exact ⟨h.2, List.pairwise_singleton _ _, fun x hx y hy => by have := h.1 x hx; rw [List.mem_singleton.1 hy]; omega⟩
theorem Asc.next {xs : List Int} {hi : Int} {k : Nat} {x y : Int} (h : Asc xs hi) (h1 : xs[k]? = some x) (h2 : xs[k + 1]? = some y) : x ≤ y := by
  obtain ⟨k1, rfl⟩ := List.getElem?_eq_some_iff.1 h1
  obtain ⟨k2, rfl⟩ := List.getElem?_eq_some_iff.1 h2
  exact List.pairwise_iff_getElem.1 h.2 k (k + 1) k1 k2 (by omega)
theorem wpList_push_Ic {ops : Array Oper} {rest : List Oper} {o : Oper} {a : Act} {Q : Exit → Act → World → Prop} {B : Nat} {w : World} {s x : Operand} {A : Option Addr} {c : Nat} {rs : List Int} {H : Nat} (r : Int) (hw : o.guard = none)
    (ho : o.op = .call { callee := .builtin .append, args := #[s, x], argTypes := #[34, 34] }) (hown : OwnI w B A c rs) (hs : a.eval s = .slice A rs.length c) (hx : a.eval x = .slice (some ⟨H, 0, none⟩) 1 1) (hH : w.heap.size = H) (hlen : rs.length ≤ 1000000000) (hB : B ≤ w.heap.size)
    (h : ∀ A' c' w', OwnI w' B A' c' (rs ++ [r]) → (w.alloc (.cells #[.int .i64 r] 3)).grownBy w' (Value.slice A rs.length c).ownBlock → (OwnI (w.alloc (.cells #[.int .i64 r] 3)) B A c rs) →
      (∀ g m, g < w.heap.size → (Value.slice A rs.length c).ownBlock ≠ some g → (Value.slice A' m c').ownBlock ≠ some g) → wpList Try.prog ops Q rest (a.put o.dst (.slice A' (rs.length + 1) c')) w') :
    wpList Try.prog ops Q (o :: rest) a (w.alloc (.cells #[.int .i64 r] 3)) := by
  subst hH
  obtain ⟨i0, hi, hz0, hz1, hz2⟩ := info_parts infoInt
  have ho2 : OwnI (w.alloc (.cells #[.int .i64 r] 3)) B A c rs := World.ownsRow.alloc hown _
  refine wpList_append_own_at _ hw s x 34 ho B 3 i0 _ 1 8 Try.underlying34 hi hz0 hz1 hz2 rfl (by decide) _ _ _ hs ho2 ⟨w.heap.size, 0, none⟩ 1 1 [.int .i64 r] hx rfl (one_new _ _ _) (one_one _) (by unfold maxLen; omega) (by omega) (by simp; omega) ?_
  intro v3 w3 hown3 hg3 _ hat
  have hown4 : w3.ownsRow B 3 1 v3 (rs.length + 1) ((rs ++ [r]).map (Value.int .i64)) := by rw [List.map_append]; exact hown3
  obtain ⟨A4, c4, rfl, hl4, hown5⟩ := OwnI.of hown4
  have := h A4 c4 w3 hown5 hg3 ho2 (fun g m hg hne => by
    have e0 : (Value.slice A4 m c4).ownBlock = (Value.slice A4 (rs ++ [r]).length c4).ownBlock := by cases A4 <;> rfl
    rw [e0]
    rcases hat with e | e
    · rw [e]; exact hne
    · rw [e]; simp only [size_alloc']; intro e2; injection e2 with e2; omega)
  simpa using this

/-- What is appended to a slice of the call's own leaves another slice as it was. -/
structure Apt (w : World) (A' A1 : Option Addr) : Prop where
  ne : ∀ x, A1 = some x → ∀ m c, (Value.slice A' m c).ownBlock ≠ some x.block
  lt : ∀ x, A1 = some x → x.block < w.heap.size
theorem own_addr {w : World} {B e sz n c : Nat} {A : Option Addr} {xs : List Value} (h : w.ownsRow B e sz (.slice A n c) n xs) : A = none ∨ ∃ g, A = some ⟨g, 0, none⟩ ∧ B ≤ g ∧ g < w.heap.size := by
  obtain ⟨A0, c0, e, _, _, _, h5, _⟩ := own_form h
  injection e with e1 e2 e3
  subst e1
  exact h5
theorem Apt.start {w1 : World} {B1 e sz n c : Nat} {A1 : Option Addr} {xs : List Value} {g : Nat} (h : w1.ownsRow B1 e sz (.slice A1 n c) n xs) (hg : g < B1) : Apt w1 (some ⟨g, 0, none⟩) A1 := by
  rcases own_addr h with h | ⟨g1, h, h1, h2⟩
  · subst h; exact ⟨by simp, by simp⟩
  · subst h
    refine ⟨fun x hx m c => ?_, fun x hx => ?_⟩
    · injection hx with hx; subst hx
      show some g ≠ some g1
      simp; omega
    · injection hx with hx; subst hx; exact h2
theorem Apt.step {w w' : World} {A' A3 A1 : Option Addr} {m3 c c3 : Nat} (h : Apt w A' A1) (hn : ∀ g m, g < w.heap.size → (Value.slice A' m3 c).ownBlock ≠ some g → (Value.slice A3 m c3).ownBlock ≠ some g) (hs : w.heap.size ≤ w'.heap.size) : Apt w' A3 A1 := by
  refine ⟨fun x hx m c2 => ?_, fun x hx => Nat.lt_of_lt_of_le (h.lt x hx) hs⟩
  have e0 : (Value.slice A3 m c2).ownBlock = (Value.slice A3 m c3).ownBlock := by cases A3 <;> rfl
  rw [e0]
  exact hn _ _ (h.lt x hx) (h.ne x hx _ _)
theorem Apt.rd {w w' : World} {A' A1 : Option Addr} {n sz m c : Nat} {xs : List Value} (h : Apt w A' A1) (hR : Rd w A1 n sz xs) (o : Obj) (hg : (w.alloc o).grownBy w' (Value.slice A' m c).ownBlock) : Rd w' A1 n sz xs :=
  (hR.alloc o).grown hg (fun _ x hx => h.ne x hx _ _)
theorem grown_cell {w w' : World} {o : Obj} {row : Option Nat} {b k : Nat} {v : Value} (hg : (w.alloc o).grownBy w' row) (h : w.cell? ⟨b, k, none⟩ = some v) (hb : b < (w.alloc o).heap.size) (hne : row ≠ some b) : w'.cell? ⟨b, k, none⟩ = some v := by
  refine hg.cell ?_ (fun e => hne e.symm)
  rw [← h]
  exact (bof w o).cell (World.block_lt_of_cell? _ _ h)
set_option maxHeartbeats 1600000 in
theorem s_hyphenPlaces (s : ByteArray) (A : Option Addr) (n c : Nat) (ps : List ByteArray) (w : World) (hs : s.size ≤ 1000) (hR : StrsAt w A n c ps) (hps : ∀ p ∈ ps, p.size ≤ 1000) :
    Calls Try.prog 99 #[.string s, .slice A n c] w fun e w' => ∃ A' c' xs, e = .returned (.slice A' xs.length c') ∧ OwnI w' w.heap.size A' c' xs ∧ xs.length ≤ s.size ∧ Asc xs s.size ∧ Below w.heap.size w w' := by
  have hB := bof w (.cells #[] 3)
  have O0 := OwnI.fresh' w
  go_enter Try.func99, Try.ntmps99
  go_wp2_with fail
  refine (s_wordLevels s A n c ps _ hs (hR.next hB) hps).mono ?_
  rintro e w1 ⟨A1, c1, ls, rfl, O1, hl1, hb1⟩
  have O := own_next O0 hb1
  have R := O1.at_
  have P := Apt.start (g := w.heap.size) O1 (by simp)
  have hb := bnext hB hb1
  have hbd := R.bd
  clear O0 O1 hb1 hB hR
  go_wp2
  go_loopw [5, 7] (fun o i wr => ∃ (k : Nat) (A' : Option Addr) (c' : Nat) (xs : List Int), 2 ≤ k ∧ k ≤ s.size + 2 ∧ i = .int .i64 k ∧ o = .slice A' xs.length c' ∧ xs.length + 2 ≤ k ∧ Asc xs k ∧ (∀ x ∈ xs, x ≤ s.size) ∧ Apt wr A' A1 ∧ OwnI wr w.heap.size A' c' xs ∧ IntsAt wr A1 ls.length c1 ls ∧ Below w.heap.size w wr) (fun _ i _ => s.size + 2 - (intOf i).toNat)
  case atStart => exact ⟨2, _, _, [], by omega, by omega, rfl, rfl, by simp, Asc.nil _, by simp, P, O, R, hb⟩
  case round =>
    clear O R hb P
    obtain ⟨k, A', c', xs, hk2, hk, rfl, rfl, hl, hasc, hbx, P, O, R, hb⟩ := hrel
    have hbs := hb.size
    by_cases hlt : k + 3 < ls.length
    · have hli : (k : Int) + 3 < (ls.length : Int) := by omega
      have hkl : k < ls.length := by omega
      obtain ⟨b, off, y, rfl, hbl, hyx, hc⟩ := R.at_ hkl
      clear hyx
      have HA := hide hasc
      have HX := hide hbx
      clear hasc hbx
      cases hodd : (y.tmod 2 == 1)
      · go_wp2
        go_roundw
        case rel => exact ⟨k + 1, A', c', xs, by omega, by omega, by go_num, rfl, by omega, (unhide HA).mono (by omega), unhide HX, P, O, R, hb⟩
        case measure => simp [intOf]; omega
      · go_wp2_with (at_builtin; refine wpList_push_Ic k rfl rfl O rfl rfl rfl (by omega) (by omega) ?_; intro A3 c3 w3 O3 hg3 hpre hap)
        have B3 := b_own (bmk hb _) hpre (Nat.le_refl _) hg3
        have R3 : IntsAt w3 (some ⟨b, off, none⟩) ls.length c1 ls := ⟨P.rd R.1 _ hg3, R.2⟩
        have P3 := P.step (w' := w3) hap (by have := hg3.size; simp at this; omega)
        clear hpre hg3 hap P O R hb hc
        go_wp2
        go_roundw
        case rel => exact ⟨k + 1, A3, c3, xs ++ [(k : Int)], by omega, by omega, by go_num, by simp, by simp; omega, ((unhide HA).snoc (by omega) (by omega)).mono (by omega), fun x hx => by
          rcases List.mem_append.1 hx with hx | hx
          · exact unhide HX x hx
          · rw [List.mem_singleton.1 hx]; omega, P3, O3, R3, B3⟩
        case measure => simp [intOf]; omega
    · have hli : ¬ (k : Int) + 3 < (ls.length : Int) := by omega
      go_wp2
      go_ret
      exact ⟨_, _, xs, rfl, O, by omega, ⟨fun x hx => ⟨(hasc.1 x hx).1, hbx x hx⟩, hasc.2⟩, hb⟩
set_option maxHeartbeats 1600000 in
theorem s_hyphenParts (s : ByteArray) (A : Option Addr) (n c : Nat) (ps : List ByteArray) (w : World) (hs : s.size ≤ 1000) (hR : StrsAt w A n c ps) (hps : ∀ p ∈ ps, p.size ≤ 1000) :
    Calls Try.prog 97 #[.string s, .slice A n c] w fun e w' => ∃ A' c' ss, e = .returned (.slice A' ss.length c') ∧ OwnS w' w.heap.size A' c' ss ∧ ss.length ≤ 21 ∧ (∀ t ∈ ss, 0 ≤ t.size ∧ t.size ≤ 1000) ∧ Below w.heap.size w w' := by
  have hB := bof w (.cells #[] 9)
  have O := OwnS.fresh w
  have R := hR.next hB
  go_enter Try.func97, Try.ntmps97
  go_wp2_with fail
  refine (s_wordValid s (by omega) _).mono ?_
  rintro e wa (⟨rfl, rfl⟩ | ⟨rfl, hp, rfl⟩)
  · go_wp2
    go_ret
    exact ⟨_, _, [], rfl, O, by simp, by simp, hB⟩
  go_wp2_with fail
  refine (s_patternsValid A n c ps _ R hps).mono ?_
  rintro e wa (⟨rfl, rfl⟩ | ⟨rfl, hp2, rfl⟩)
  · go_wp2
    go_ret
    exact ⟨_, _, [], rfl, O, by simp, by simp, hB⟩
  go_wp2_with fail
  refine (s_hyphenPlaces s A n c ps _ hs R hps).mono ?_
  rintro e w1 ⟨A1, c1, ls, rfl, O1, hl1, hasc, hb1⟩
  replace O := own_next O hb1
  have R1 := O1.at_
  have P := Apt.start (g := w.heap.size) O1 (by simp)
  have hb := bnext hB hb1
  have hbd := R1.bd
  have HA := hide hasc
  clear hb1 hB hR R O1 hasc
  go_wp2
  go_loopw [5, 7, 8] (fun o f i wr => ∃ (k F : Nat) (A' : Option Addr) (c' : Nat) (ss : List ByteArray), k ≤ ls.length ∧ F ≤ s.size ∧ i = .int .i64 k ∧ f = .int .i64 F ∧ o = .slice A' ss.length c' ∧ ss.length ≤ k ∧ (∀ y, ls[k]? = some y → (F : Int) ≤ y) ∧ (∀ t ∈ ss, 0 ≤ t.size ∧ t.size ≤ 1000) ∧ Apt wr A' A1 ∧ OwnS wr w.heap.size A' c' ss ∧ IntsAt wr A1 ls.length c1 ls ∧ Below w.heap.size w wr) (fun _ _ i _ => ls.length - (intOf i).toNat)
  case atStart => exact ⟨0, 0, _, _, [], by omega, by omega, rfl, rfl, rfl, by simp, fun y hy => ((unhide HA).1 y (mem_of_get hy)).1, by simp, P, O, R1, hb⟩
  case round =>
    clear O R1 hb P
    obtain ⟨k, F, A', c', ss, hk, hF, rfl, rfl, rfl, hl, hnx, hsz, P, O, R1, hb⟩ := hrel
    have hbs := hb.size
    by_cases hlt : k < ls.length
    · obtain ⟨b, off, y, rfl, hbl, hyx, hc⟩ := R1.at_ hlt
      have hy := (unhide HA).1 y (mem_of_get hyx)
      have hFy := hnx y hyx
      obtain ⟨u, rfl⟩ : ∃ u : Nat, y = u := ⟨y.toNat, by omega⟩
      have hus : u ≤ s.size := by omega
      have hFu : F ≤ u := by omega
      have HNX : Hid (∀ z, ls[k + 1]? = some z → (u : Int) ≤ z) := fun z hz => (unhide HA).next hyx hz
      clear hyx hnx hFy hy
      go_wp2_with (at_builtin; refine wpList_push_S (s.extract F u) rfl rfl O rfl rfl rfl (by omega) (by omega) ?_; intro A3 c3 w3 O3 hg3 hpre hap; have B3 := b_own (bmk hb _) hpre (Nat.le_refl _) hg3; have R3 : IntsAt w3 (some ⟨b, off, none⟩) ls.length c1 ls := ⟨P.rd R1.1 _ hg3, R1.2⟩; have P3 := P.step (w' := w3) hap (by have := hg3.size; simp at this; omega); have hc3 : w3.cell? ⟨b, off + k, none⟩ = some (.int .i64 u) := grown_cell hg3 hc (by simpa using Nat.lt_succ_of_lt hbl) (P.ne _ rfl _ _))
      clear hpre hg3 hap P O R1 hb hc
      go_roundw
      case rel => exact ⟨k + 1, u, A3, c3, ss ++ [s.extract F u], by omega, by omega, by go_num, rfl, by simp, by simp; omega, unhide HNX, size_snoc hsz (by rw [ByteArray.size_extract]; omega), P3, O3, R3, B3⟩
      case measure => simp [intOf]; omega
    · go_wp2_with (at_builtin; refine wpList_push_S (s.extract F s.size) rfl rfl O rfl rfl rfl (by omega) (by omega) ?_; intro A3 c3 w3 O3 hg3 hpre hap; have B3 := b_own (bmk hb _) hpre (Nat.le_refl _) hg3)
      go_ret
      exact ⟨_, _, ss ++ [s.extract F s.size], by simp, O3, by simp; omega, size_snoc hsz (by rw [ByteArray.size_extract]; omega), B3⟩
end Go.Proofs.Ytlklkloadefihaa

namespace Go.Proofs.Ytlklkloadefihaa
open Go.RowKit
set_option linter.unusedVariables false

theorem wpList_push_Tc {ops : Array Oper} {rest : List Oper} {o : Oper} {a : Act} {Q : Exit → Act → World → Prop} {B : Nat} {w : World} {s x : Operand} {A : Option Addr} {c : Nat} {rs : List Item} {H : Nat} (r : Item) (hw : o.guard = none)
    (ho : o.op = .call { callee := .builtin .append, args := #[s, x], argTypes := #[23, 23] }) (hown : OwnT w B A c rs) (hs : a.eval s = .slice A rs.length c) (hx : a.eval x = .slice (some ⟨H, 0, none⟩) 1 1) (hH : w.heap.size = H) (hlen : rs.length ≤ 1000000000) (hB : B ≤ w.heap.size)
    (h : ∀ A' c' w', OwnT w' B A' c' (rs ++ [r]) → (w.alloc (.cells #[.int .i64 r.kind, .int .i64 r.w, .int .i64 r.st, .int .i64 r.sh, .int .i64 r.od, .int .i64 r.cost, .bool r.mark] 51)).grownBy w' (Value.slice A rs.length c).ownBlock → (OwnT (w.alloc (.cells #[.int .i64 r.kind, .int .i64 r.w, .int .i64 r.st, .int .i64 r.sh, .int .i64 r.od, .int .i64 r.cost, .bool r.mark] 51)) B A c rs) → (∀ g m, g < w.heap.size → (Value.slice A rs.length c).ownBlock ≠ some g → (Value.slice A' m c').ownBlock ≠ some g) → wpList Try.prog ops Q rest (a.put o.dst (.slice A' (rs.length + 1) c')) w') :
    wpList Try.prog ops Q (o :: rest) a (w.alloc (.cells #[.int .i64 r.kind, .int .i64 r.w, .int .i64 r.st, .int .i64 r.sh, .int .i64 r.od, .int .i64 r.cost, .bool r.mark] 51)) := by
  subst hH
  obtain ⟨i0, hi, hz0, hz1, hz2⟩ := info_parts infoItem
  have ho2 : OwnT (w.alloc (.cells #[.int .i64 r.kind, .int .i64 r.w, .int .i64 r.st, .int .i64 r.sh, .int .i64 r.od, .int .i64 r.cost, .bool r.mark] 51)) B A c rs := World.ownsRow.alloc hown _
  refine wpList_append_own_at _ hw s x 23 ho B 51 i0 _ 7 56 Try.underlying23 hi hz0 hz1 hz2 rfl (by decide) _ _ _ hs ho2 ⟨w.heap.size, 0, none⟩ 1 1 [.int .i64 r.kind, .int .i64 r.w, .int .i64 r.st, .int .i64 r.sh, .int .i64 r.od, .int .i64 r.cost, .bool r.mark] hx rfl (cells_new_items _ _ _ _ _ _ _ _ _) (one_items r) (by unfold maxLen; omega) (by omega) (by simp; omega) ?_
  intro v3 w3 hown3 hg3 _ hat
  have hown4 : w3.ownsRow B 51 7 v3 (rs ++ [r]).length ((rs ++ [r]).flatMap Item.cells) := by rw [flat_snoc_items]; simpa using hown3
  obtain ⟨A4, c4, rfl, hown5⟩ := OwnT.of hown4
  have := h A4 c4 w3 hown5 hg3 ho2 (fun g m hg hne => by
    have e0 : (Value.slice A4 m c4).ownBlock = (Value.slice A4 (rs ++ [r]).length c4).ownBlock := by cases A4 <;> rfl
    rw [e0]
    rcases hat with e | e
    · rw [e]; exact hne
    · rw [e]; simp only [size_alloc']; intro e2; injection e2 with e2; omega)
  simpa using this


theorem Apt.next {w w' : World} {A' A1 : Option Addr} (h : Apt w A' A1) (hb : Below w.heap.size w w') : Apt w' A' A1 := ⟨h.ne, fun x hx => Nat.lt_of_lt_of_le (h.lt x hx) hb.size⟩
theorem OwnT.fresh (w : World) : OwnT (w.alloc (.cells #[] 51)) w.heap.size (some ⟨w.heap.size, 0, none⟩) 0 [] := World.ownsRow_made w #[] 0 (Nat.le_refl _) (Nat.zero_le _) rfl
set_option maxHeartbeats 1600000 in
theorem s_l6Word (s : ByteArray) (A : Option Addr) (n c : Nat) (ps : List ByteArray) (w : World) (hs : s.size ≤ 1000) (hR : StrsAt w A n c ps) (hps : ∀ p ∈ ps, p.size ≤ 1000) :
    Calls Try.prog 89 #[.string s, .slice A n c] w fun e w' => ∃ A' c' rs, e = .returned (.slice A' rs.length c') ∧ OwnT w' w.heap.size A' c' rs ∧ rs.length ≤ 42 ∧ Below w.heap.size w w' := by
  have hB := bof w (.cells #[] 51)
  have O := OwnT.fresh w
  have R := hR.next hB
  go_enter Try.func89, Try.ntmps89
  go_wp2_with fail
  refine (s_hyphenParts s A n c ps _ hs R hps).mono ?_
  rintro e w1 ⟨A1, c1, ss, rfl, O1, hl1, hsz, hb1⟩
  replace O := own_next O hb1
  have R1 := O1.at_
  have P := Apt.start (g := w.heap.size) O1 (by simp)
  have hb := bnext hB hb1
  have hbd := R1.bd
  clear hb1 hB hR R O1
  go_wp2
  go_loopw [5, 7] (fun o i wr => ∃ (k : Nat) (A' : Option Addr) (c' : Nat) (rs : List Item), k ≤ ss.length ∧ i = .int .i64 k ∧ o = .slice A' rs.length c' ∧ rs.length ≤ 2 * k ∧ Apt wr A' A1 ∧ OwnT wr w.heap.size A' c' rs ∧ StrsAt wr A1 ss.length c1 ss ∧ Below w.heap.size w wr) (fun _ i _ => ss.length - (intOf i).toNat)
  case atStart => exact ⟨0, _, _, [], by omega, rfl, rfl, by simp, P, O, R1, hb⟩
  case round =>
    clear O R1 hb P
    obtain ⟨k, A', c', rs, hk, rfl, rfl, hl, P, O, R1, hb⟩ := hrel
    have hbs := hb.size
    by_cases hlt : k < ss.length
    · obtain ⟨b, off, t, rfl, hbl, htx, hc⟩ := R1.at_ hlt
      have hts := hsz t (mem_of_get htx)
      clear htx
      by_cases hk0 : 0 < k
      · have hki : (0 : Int) < (k : Int) := by omega
        go_wp2_with (at_builtin; refine wpList_push_Tc ⟨3, 3, 0, 0, 0, 50, true⟩ rfl rfl O rfl rfl rfl (by omega) (by omega) ?_; intro A3 c3 w3 O3 hg3 hpre hap; have B3 := b_own (bmk hb _) hpre (Nat.le_refl _) hg3; have R3 : StrsAt w3 (some ⟨b, off, none⟩) ss.length c1 ss := ⟨P.rd R1.1 _ hg3, R1.2⟩; have P3 := P.step (w' := w3) hap (by have := hg3.size; simp at this; omega); have hc3 : w3.cell? ⟨b, off + k, none⟩ = some (.string t) := grown_cell hg3 hc (by simpa using Nat.lt_succ_of_lt hbl) (P.ne _ rfl _ _))
        obtain ⟨r3, hr3⟩ : ∃ r3, r3 = rs ++ [(⟨3, 3, 0, 0, 0, 50, true⟩ : Item)] := ⟨_, rfl⟩
        have hr3l : r3.length = rs.length + 1 := by rw [hr3]; simp
        rw [← hr3] at O3
        clear hr3 hpre hg3 hap P O R1 hb hc hbl hbs
        rw [← hr3l]
        have hr3b : r3.length ≤ 2 * k + 1 := by omega
        clear hc3 hr3l
        refine (s_wordWidth t (by omega) _).mono ?_
        rintro e w4 ⟨x, rfl, hb4⟩
        replace O3 := O3.next hb4
        replace R3 := R3.next hb4
        replace P3 := P3.next hb4
        replace B3 := bnext B3 hb4
        have hbs4 := (B3).size
        clear hb4
        go_wp2_with (at_builtin; refine wpList_push_Tc ⟨1, x, 0, 0, 0, 0, false⟩ rfl rfl O3 rfl rfl rfl (by omega) (by omega) ?_; intro A5 c5 w5 O5 hg5 hpre5 hap5)
        have B5 := b_own (bmk B3 _) hpre5 (Nat.le_refl _) hg5
        have R5 : StrsAt w5 (some ⟨b, off, none⟩) ss.length c1 ss := ⟨P3.rd R3.1 _ hg5, R3.2⟩
        have P5 := P3.step (w' := w5) hap5 (by have := hg5.size; simp at this; omega)
        clear hpre5 hg5 hap5 P3 O3 R3 B3 hbs4
        go_wp2
        go_roundw
        case rel => exact ⟨k + 1, A5, c5, r3 ++ [⟨1, x, 0, 0, 0, 0, false⟩], by omega, by go_num, by simp, by simp; omega, P5, O5, R5, B5⟩
        case measure => simp [intOf]; omega
      · have hki : ¬ (0 : Int) < (k : Int) := by omega
        go_wp2_with fail
        refine (s_wordWidth t (by omega) _).mono ?_
        rintro e w4 ⟨x, rfl, hb4⟩
        replace O := O.next hb4
        replace R1 := R1.next hb4
        replace P := P.next hb4
        replace hb := bnext hb hb4
        have hbs4 := (hb).size
        clear hb4
        go_wp2_with (at_builtin; refine wpList_push_Tc ⟨1, x, 0, 0, 0, 0, false⟩ rfl rfl O rfl rfl rfl (by omega) (by omega) ?_; intro A5 c5 w5 O5 hg5 hpre5 hap5)
        have B5 := b_own (bmk hb _) hpre5 (Nat.le_refl _) hg5
        have R5 : StrsAt w5 (some ⟨b, off, none⟩) ss.length c1 ss := ⟨P.rd R1.1 _ hg5, R1.2⟩
        have P5 := P.step (w' := w5) hap5 (by have := hg5.size; simp at this; omega)
        clear hc hbl hbs hpre5 hg5 hap5 P O R1 hb hbs4
        go_wp2
        go_roundw
        case rel => exact ⟨k + 1, A5, c5, rs ++ [⟨1, x, 0, 0, 0, 0, false⟩], by omega, by go_num, by simp, by simp; omega, P5, O5, R5, B5⟩
        case measure => simp [intOf]; omega
    · go_wp2
      go_ret
      exact ⟨_, _, rs, rfl, O, by omega, hb⟩
end Go.Proofs.Ytlklkloadefihaa

namespace Go.Proofs.Ytlklkloadefihaa
open Go.RowKit
set_option linter.unusedVariables false

theorem ones_items (xs : List Item) : ∀ u ∈ xs.flatMap Item.cells, u.oneCell' = true := by
  intro u hu
  obtain ⟨r, _, hr⟩ := List.mem_flatMap.1 hu
  exact one_items r u hr
theorem wpList_push_Tr {ops : Array Oper} {rest : List Oper} {o : Oper} {a : Act} {Q : Exit → Act → World → Prop} {B : Nat} {w : World} {s x : Operand} {A : Option Addr} {c : Nat} {rs : List Item} {A2 : Option Addr} {n2 c2 : Nat} {xs : List Item} (hw : o.guard = none)
    (ho : o.op = .call { callee := .builtin .append, args := #[s, x], argTypes := #[23, 23] }) (hown : OwnT w B A c rs) (hR : ItemsAt w A2 n2 c2 xs) (hs : a.eval s = .slice A rs.length c) (hx : a.eval x = .slice A2 n2 c2) (hlen : rs.length + n2 ≤ 1000000000) (hB : B ≤ w.heap.size)
    (h : ∀ A' c' w', OwnT w' B A' c' (rs ++ xs) → w.grownBy w' (Value.slice A rs.length c).ownBlock → wpList Try.prog ops Q rest (a.put o.dst (.slice A' (rs.length + n2) c')) w') :
    wpList Try.prog ops Q (o :: rest) a w := by
  obtain ⟨i0, hi, hz0, hz1, hz2⟩ := info_parts infoItem
  have hn := hR.len
  refine wpList_append_rd _ (by unfold Region.wanted; rw [hw]) s x 23 ho B 51 i0 _ 7 56 Try.underlying23 hi hz0 hz1 hz2 rfl (by decide) _ _ _ hs hown A2 n2 c2 (xs.flatMap Item.cells) hx hR.1 (ones_items xs) (by unfold maxLen; omega) (by omega) hB ?_
  intro v3 w3 hown3 hg3
  have hown4 : w3.ownsRow B 51 7 v3 (rs ++ xs).length ((rs ++ xs).flatMap Item.cells) := by rw [List.flatMap_append, List.length_append, hn]; exact hown3
  obtain ⟨A4, c4, rfl, hown5⟩ := OwnT.of hown4
  have := h A4 c4 w3 hown5 hg3
  rw [List.length_append, hn]
  exact this
set_option maxRecDepth 100000 in
set_option maxHeartbeats 1600000 in
theorem s_paragraphItems (A0 : Option Addr) (n0 c0 : Nat) (ws : List ByteArray) (A : Option Addr) (n c : Nat) (ps : List ByteArray) (w : World) (hW : StrsAt w A0 n0 c0 ws) (hws : ∀ s ∈ ws, s.size ≤ 1000) (hR : StrsAt w A n c ps) (hps : ∀ p ∈ ps, p.size ≤ 1000) :
    Calls Try.prog 70 #[.slice A0 n0 c0, .slice A n c] w fun e w' => ∃ A' c' rs b, e = .returned (.tuple #[.slice A' rs.length c', .bool b]) ∧ OwnT w' w.heap.size A' c' rs ∧ rs.length ≤ 60 ∧ Below w.heap.size w w' := by
  have hB := bof w (.cells #[] 51)
  have O := OwnT.fresh w
  have R := hR.next hB
  have W := hW.next hB
  have hbd0 := hW.bd
  have hbd := hR.bd
  go_enter Try.func70, Try.ntmps70
  go_wp2_with fail
  refine (s_wordsValid A0 n0 c0 ws _ W hws).mono ?_
  rintro e wa (⟨rfl, rfl⟩ | ⟨rfl, hp, rfl⟩)
  · go_wp2
    go_ret2
    exact ⟨_, _, [], _, rfl, O, by simp, hB⟩
  go_wp2_with fail
  refine (s_patternsValid A n c ps _ R hps).mono ?_
  rintro e wa (⟨rfl, rfl⟩ | ⟨rfl, hp2, rfl⟩)
  · go_wp2
    go_ret2
    exact ⟨_, _, [], _, rfl, O, by simp, hB⟩
  by_cases h0 : n0 = 0
  · have hz : ((n0 : Int) == 0) = true := by simp [h0]
    go_wp2
    go_ret2
    exact ⟨_, _, [], _, rfl, O, by simp, hB⟩
  have hz : ((n0 : Int) == 0) = false := by simp; omega
  clear R W
  go_wp2
  go_loopw [6, 7] (fun o i wr => ∃ (k : Nat) (A' : Option Addr) (c' : Nat) (rs : List Item), k ≤ n0 ∧ i = .int .i64 k ∧ o = .slice A' rs.length c' ∧ rs.length ≤ 50 * k ∧ OwnT wr w.heap.size A' c' rs ∧ Below w.heap.size w wr) (fun _ i _ => n0 - (intOf i).toNat)
  case atStart => exact ⟨0, _, _, [], by omega, rfl, rfl, by simp, O, hB⟩
  case round =>
    clear O hB
    obtain ⟨k, A', c', rs, hk, rfl, rfl, hl, O, hb⟩ := hrel
    have hbs := hb.size
    by_cases hlt : k < n0
    · obtain ⟨b, off, t, rfl, hbl, htx, hc0⟩ := hW.at_ hlt
      have hc := (hb.cell (p := ⟨b, off + k, none⟩) hbl).trans hc0
      have hts := hws t (mem_of_get htx)
      clear htx
      by_cases hk0 : 0 < k
      · have hki : (0 : Int) < (k : Int) := by omega
        go_wp2_with (at_builtin; refine wpList_push_Tc ⟨2, 4, 3, 1, 0, 0, false⟩ rfl rfl O rfl rfl rfl (by omega) (by omega) ?_; intro A3 c3 w3 O3 hg3 hpre hap; have B3 := b_own (bmk hb _) hpre (Nat.le_refl _) hg3; have hc3 : w3.cell? ⟨b, off + k, none⟩ = some (.string t) := (B3.cell (p := ⟨b, off + k, none⟩) hbl).trans hc0)
        obtain ⟨r3, hr3⟩ : ∃ r3, r3 = rs ++ [(⟨2, 4, 3, 1, 0, 0, false⟩ : Item)] := ⟨_, rfl⟩
        have hr3l : r3.length = rs.length + 1 := by rw [hr3]; simp
        rw [← hr3] at O3
        clear hr3 hpre hg3 hap O hb hc hbs
        have hbs := B3.size
        rw [← hr3l]
        have hr3b : r3.length ≤ 50 * k + 1 := by omega
        clear hc3 hr3l
        refine (s_l6Word t A n c ps _ (by omega) (hR.next B3) hps).mono ?_
        rintro e w4 ⟨A4, c4, xs, rfl, O4, hl4, hb4⟩
        replace O3 := O3.next hb4
        have I4 := O4.at_
        replace B3 := bnext B3 hb4
        have hbs4 := B3.size
        clear hb4 hbs O4
        go_wp2_with (at_builtin; refine wpList_push_Tr rfl rfl O3 I4 rfl rfl (by omega) hbs4 ?_; intro A5 c5 w5 O5 hg5; have B5 := b_own B3 O3 (Nat.le_refl _) hg5)
        clear hg5 O3 I4 B3 hbs4
        obtain ⟨r5, hr5⟩ : ∃ r5, r5 = r3 ++ xs := ⟨_, rfl⟩
        have hr5l : r3.length + xs.length = r5.length := by rw [hr5]; simp
        rw [← hr5] at O5
        rw [hr5l]
        have hr5b : r5.length ≤ 50 * (k + 1) := by omega
        clear hr5 hr5l
        go_wp2
        go_roundw
        case rel => exact ⟨k + 1, A5, c5, r5, by omega, by go_num, rfl, by omega, O5, B5⟩
        case measure => simp [intOf]; omega
      · have hki : ¬ (0 : Int) < (k : Int) := by omega
        go_wp2_with fail
        refine (s_l6Word t A n c ps _ (by omega) (hR.next hb) hps).mono ?_
        rintro e w4 ⟨A4, c4, xs, rfl, O4, hl4, hb4⟩
        replace O := O.next hb4
        have I4 := O4.at_
        replace hb := bnext hb hb4
        have hbs4 := hb.size
        clear hb4 hc hbs O4
        go_wp2_with (at_builtin; refine wpList_push_Tr rfl rfl O I4 rfl rfl (by omega) hbs4 ?_; intro A5 c5 w5 O5 hg5; have B5 := b_own hb O (Nat.le_refl _) hg5)
        clear hg5 O I4 hb hbs4
        obtain ⟨r5, hr5⟩ : ∃ r5, r5 = rs ++ xs := ⟨_, rfl⟩
        have hr5l : rs.length + xs.length = r5.length := by rw [hr5]; simp
        rw [← hr5] at O5
        rw [hr5l]
        have hr5b : r5.length ≤ 50 * (k + 1) := by omega
        clear hr5 hr5l
        go_wp2
        go_roundw
        case rel => exact ⟨k + 1, A5, c5, r5, by omega, by go_num, rfl, by omega, O5, B5⟩
        case measure => simp [intOf]; omega
    · go_wp2_with (at_builtin; refine wpList_push_Tr rfl rfl (World.ownsRow.alloc O _) (xs := [⟨3, 0, 0, 0, 0, 10000, false⟩, ⟨2, 0, 1, 0, 1, 0, false⟩, ⟨3, 0, 0, 0, 0, -10000, false⟩]) (n2 := 3) (c2 := 3) (A2 := some ⟨wr.heap.size, 0, none⟩) ⟨rd_new wr 51 _ 3 7 rfl, by omega, by omega⟩ rfl rfl (by omega) (by simp; omega) ?_; intro A5 c5 w5 O5 hg5; have B5 := b_own (bmk hb _) (World.ownsRow.alloc O _) (Nat.le_refl _) hg5)
      have hbs5 := B5.size
      all_goals go_ret2
      · exact ⟨_, _, [], _, rfl, own_base (OwnT.fresh w5) hbs5, by simp, bmk B5 _⟩
      · exact ⟨A5, c5, rs ++ [⟨3, 0, 0, 0, 0, 10000, false⟩, ⟨2, 0, 1, 0, 1, 0, false⟩, ⟨3, 0, 0, 0, 0, -10000, false⟩], true, by simp, O5, by simp; omega, B5⟩
end Go.Proofs.Ytlklkloadefihaa
