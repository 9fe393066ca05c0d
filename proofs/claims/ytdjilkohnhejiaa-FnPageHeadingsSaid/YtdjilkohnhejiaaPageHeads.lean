/- PageHeadings: what it computes, and the two contracts. No condition. -/
import Derived.Test.YtdjilkohnhejiaaHeadsOf
namespace Go.Proofs.Ytdjilkohnhejiaa
open Go.RowKit
set_option linter.unusedVariables false

def pGo (rs : List Heading) : Int → List Int → List Int → Option (List Int)
  | _, [], acc => some acc
  | fr, x :: t, acc => if inB x fr 30 then pGo rs x t (acc ++ [(headsOf rs fr x).f]) else none
def pageHeads (rs : List Heading) (es : List Int) : List Int := if headsValid rs then (pGo rs 0 es []).getD [] else []

theorem pGo_len (rs : List Heading) : ∀ (es : List Int) (fr : Int) (acc l : List Int), pGo rs fr es acc = some l → l.length = acc.length + es.length
  | [], fr, acc, l, h => by simp [pGo] at h; subst h; rfl
  | x :: t, fr, acc, l, h => by
    rw [pGo] at h
    split at h
    · have := pGo_len rs t _ _ l h; simp at this; simp; omega
    · cases h
theorem pageHeads_len (rs : List Heading) (es : List Int) : (pageHeads rs es).length ≤ es.length := by
  unfold pageHeads
  split
  · cases hg : pGo rs 0 es [] with
    | none => simp
    | some l => have := pGo_len rs es 0 [] l hg; simp at this; simp [this]
  · simp
set_option maxHeartbeats 1000000 in
theorem c_pageHeads (A : Option Addr) (n c : Nat) (rs : List Heading) (A2 : Option Addr) (n2 c2 : Nat) (es : List Int) (w : World) (hR : HeadsAt w A n c rs) (hI : IntsAt w A2 n2 c2 es) (hn : n2 ≤ 10000000) :
    Calls Try.prog 28 #[.slice A n c, .slice A2 n2 c2] w fun e w' => ∃ A' c', e = .returned (.slice A' (pageHeads rs es).length c') ∧ OwnI w' w.heap.size A' c' (pageHeads rs es) ∧ Below w.heap.size w w' := by
  obtain ⟨i0, hi, hz0, hz1, hz2⟩ := info_parts infoInt
  have hlen2 := hI.len
  have hbd2 := hI.bd
  cases h1 : headsValid rs
  · have H : Hid (pageHeads rs es = []) := by show _ = _; simp [pageHeads, h1]
    go_enter Try.func28, Try.ntmps28
    go_wp2_with fail
    refine (c_headsValid_b h1 _ hR).mono ?_
    rintro e w1 ⟨rfl, hb1⟩
    go_wp2
    go_ret
    rw [unhide H]
    exact ⟨none, 0, rfl, OwnI.nil_ _ _, hb1⟩
  · have H : Hid (pageHeads rs es = (pGo rs 0 es []).getD []) := by show _ = _; simp [pageHeads, h1]
    have HL2 := hide hlen2
    clear hlen2
    go_enter Try.func28, Try.ntmps28
    go_wp2_with fail
    refine (c_headsValid_b h1 _ hR).mono ?_
    rintro e w1 ⟨rfl, hb1⟩
    go_wp2
    go_loopw [5, 6, 17] (fun o f i wr => ∃ (k : Nat) (fr : Int) (AO : Option Addr) (cO : Nat) (acc : List Int), k ≤ n2 ∧ i = .int .i64 k ∧ f = .int .i64 fr ∧
        o = .slice AO acc.length cO ∧ OwnI wr w.heap.size AO cO acc ∧ acc.length ≤ k ∧ Hid (pGo rs 0 es [] = pGo rs fr (es.drop k) acc) ∧ Below w.heap.size w wr) (fun _ _ i _ => n2 - (intOf i).toNat)
    case atStart => exact ⟨0, 0, none, 0, [], Nat.zero_le _, rfl, rfl, rfl, OwnI.nil_ _ _, Nat.le_refl _, rfl, hb1⟩
    case round =>
      clear hb1
      obtain ⟨k, fr, AO, cO, acc, hk, rfl, rfl, rfl, hown, hacc, hgo, hb⟩ := hrel
      by_cases hlt : k < n2
      · obtain ⟨b, off, x, rfl, hbl, hx, hc⟩ := (hI.next hb).at_ hlt
        have HX := hide hx
        clear hx
        cases hh : inB x fr 30
        · have HG : Hid (pGo rs 0 es [] = none) := by show _ = _; rw [unhide hgo, drop_get (unhide HX), pGo, hh]; rfl
          go_wp2_with fail
          refine (c_in_b hh _).mono ?_
          rintro e w2 ⟨rfl, rfl⟩
          go_wp2
          go_ret
          rw [unhide H, unhide HG]
          exact ⟨none, 0, rfl, OwnI.nil_ _ _, hb⟩
        · have HG : Hid (pGo rs 0 es [] = pGo rs x (es.drop (k + 1)) (acc ++ [(headsOf rs fr x).f])) := by
            show _ = _; rw [unhide hgo, drop_get (unhide HX), pGo, hh]; rfl
          go_wp2_with fail
          refine (c_in_b hh _).mono ?_
          rintro e w2 ⟨rfl, rfl⟩
          go_wp2_with fail
          refine (c_headsOf A n c rs fr x _ (hR.next hb)).mono ?_
          rintro e w2 ⟨rfl, hb2⟩
          have hown2 := hown.next hb2
          have hb3 := bnext hb hb2
          clear hown hb hb2
          simp only [H3.res]
          generalize (headsOf rs fr x).f = m at HG ⊢
          go_wp2_with (at_builtin; refine wpList_append_own _ rfl _ _ 40 rfl w.heap.size 3 i0 _ 1 8 Try.underlying40 hi hz0 hz1 hz2 rfl (by decide) _ _ _ rfl (World.ownsRow.alloc hown2 _) ⟨w2.heap.size, 0, none⟩ 1 1 [.int .i64 m] rfl rfl ?c1 ?c2 ?c3 ?c4 ?c5 ?_)
          case c1 => exact one_new _ _ _
          case c2 => exact one_one _
          case c3 => unfold maxLen; omega
          case c4 => omega
          case c5 => have := hb3.size; simp; omega
          intro v3 w3 hown3 hg3 _
          have hI3 := hI.next (b_own (bmk hb3 _) (World.ownsRow.alloc hown2 _) (Nat.le_refl _) hg3)
          have hb4 := b_own (bmk hb3 _) (World.ownsRow.alloc hown2 _) (Nat.le_refl _) hg3
          have hown4 : w3.ownsRow w.heap.size 3 1 v3 (acc.length + 1) ((acc ++ [m]).map (Value.int .i64)) := by rw [List.map_append]; exact hown3
          obtain ⟨A4, c4, rfl, _, hown5⟩ := OwnI.of hown4
          clear hown2 hb3 hown3 hg3 hown4
          go_wp2
          go_roundw
          case rel => exact ⟨k + 1, x, A4, c4, acc ++ [m], by omega, by go_num, rfl, by simp, hown5, by simp; omega, HG, hb4⟩
          case measure => simp [intOf]; omega
      · have HG : Hid (pGo rs 0 es [] = some acc) := by
          show _ = _; rw [unhide hgo, drop_end (by rw [unhide HL2]; omega), pGo]
        go_wp2
        go_ret
        rw [unhide H, unhide HG]
        exact ⟨AO, cO, rfl, hown, hb⟩

set_option maxHeartbeats 1000000 in
theorem c_pageHeads' (A : Option Addr) (n c : Nat) (rs : List Heading) (A2 : Option Addr) (n2 c2 : Nat) (es : List Int) (w : World) (hR : HeadsAt w A n c rs) (hI : IntsAt w A2 n2 c2 es) (hn : n2 ≤ 10000000) :
    Calls Try.prog 26 #[.slice A n c, .slice A2 n2 c2] w fun e w' => ∃ A' c', e = .returned (.slice A' (pageHeads rs es).length c') ∧ OwnI w' w.heap.size A' c' (pageHeads rs es) ∧ Below w.heap.size w w' := by
  obtain ⟨i0, hi, hz0, hz1, hz2⟩ := info_parts infoInt
  have hlen2 := hI.len
  have hbd2 := hI.bd
  have hown0 : OwnI (w.alloc (.cells #[] 3)) w.heap.size (some ⟨w.heap.size, 0, none⟩) 0 [] := World.ownsRow_made _ #[] 0 (Nat.le_refl _) (Nat.zero_le _) rfl
  have HL2 := hide hlen2
  clear hlen2
  have H : Hid (pageHeads rs es = if headsValid rs then (pGo rs 0 es []).getD [] else []) := rfl
  go_enter Try.func26, Try.ntmps26
  go_wp2
  go_loopw [5, 6, 7] (fun o f i wr => ∃ (k : Nat) (fr : Int) (AO : Option Addr) (cO : Nat) (acc : List Int), k ≤ n2 ∧ i = .int .i64 k ∧ f = .int .i64 fr ∧
      o = .slice AO acc.length cO ∧ OwnI wr w.heap.size AO cO acc ∧ acc.length ≤ k ∧ Hid (k = 0 ∧ acc = [] ∨ headsValid rs = true) ∧ Hid (pGo rs 0 es [] = pGo rs fr (es.drop k) acc) ∧ Below w.heap.size w wr) (fun _ _ i _ => n2 - (intOf i).toNat)
  case atStart => exact ⟨0, 0, _, 0, [], Nat.zero_le _, rfl, rfl, rfl, hown0, Nat.le_refl _, .inl ⟨rfl, rfl⟩, rfl, bof _ _⟩
  case round =>
    clear hown0
    obtain ⟨k, fr, AO, cO, acc, hk, rfl, rfl, rfl, hown, hacc, hval, hgo, hb⟩ := hrel
    by_cases hlt : k < n2
    · obtain ⟨b, off, x, rfl, hbl, hx, hc⟩ := (hI.next hb).at_ hlt
      have HX := hide hx
      clear hx
      cases h1 : headsValid rs
      · have HG : Hid (pageHeads rs es = []) := by show _ = _; rw [unhide H, h1]; rfl
        go_wp2_with fail
        refine (c_headsValid_b' h1 _ (hR.next hb)).mono ?_
        rintro e w2 ⟨rfl, hb2⟩
        go_wp2
        go_ret
        rw [unhide HG]
        exact ⟨_, 0, rfl, World.ownsRow_made _ #[] 0 (bnext hb hb2).size (Nat.zero_le _) rfl, bmk (bnext hb hb2) _⟩
      · have HV : Hid (k + 1 = 0 ∧ acc ++ [(headsOf rs fr x).f] = [] ∨ headsValid rs = true) := .inr h1
        clear hval
        cases hh : inB x fr 30
        · have HG : Hid (pageHeads rs es = []) := by show _ = _; rw [unhide H, unhide hgo, drop_get (unhide HX), pGo, hh, h1]; rfl
          go_wp2_with fail
          refine (c_headsValid_b' h1 _ (hR.next hb)).mono ?_
          rintro e w2 ⟨rfl, hb2⟩
          have hc2 := (hI.next (bnext hb hb2)).at_ hlt
          obtain ⟨b', off', x', e', hbl', hx', hc'⟩ := hc2
          obtain ⟨rfl, rfl, _⟩ := (by simpa using e' : b = b' ∧ off = off')
          rw [unhide HX] at hx'
          obtain rfl := Option.some.inj hx'
          clear hc hx' e' HX
          go_wp2_with fail
          refine (c_l1In_b hh _).mono ?_
          rintro e w3 ⟨rfl, rfl⟩
          go_wp2
          go_ret
          rw [unhide HG]
          exact ⟨_, 0, rfl, World.ownsRow_made _ #[] 0 (bnext hb hb2).size (Nat.zero_le _) rfl, bmk (bnext hb hb2) _⟩
        · have HG : Hid (pGo rs 0 es [] = pGo rs x (es.drop (k + 1)) (acc ++ [(headsOf rs fr x).f])) := by
            show _ = _; rw [unhide hgo, drop_get (unhide HX), pGo, hh]; rfl
          go_wp2_with fail
          refine (c_headsValid_b' h1 _ (hR.next hb)).mono ?_
          rintro e w4 ⟨rfl, hb4⟩
          replace hown := hown.next hb4
          replace hb := bnext hb hb4
          clear hb4 hc
          obtain ⟨b', off', x', e', hbl', hx', hc⟩ := (hI.next hb).at_ hlt
          obtain ⟨rfl, rfl, _⟩ := (by simpa using e' : b = b' ∧ off = off')
          rw [unhide HX] at hx'
          obtain rfl := Option.some.inj hx'
          clear hx' e'
          go_wp2_with fail
          refine (c_l1In_b hh _).mono ?_
          rintro e w3 ⟨rfl, rfl⟩
          go_wp2_with fail
          refine (c_headsOf' A n c rs fr x _ (hR.next hb)).mono ?_
          rintro e w2 ⟨rfl, hb2⟩
          have hown2 := hown.next hb2
          have hb3 := bnext hb hb2
          clear hown hb hb2 hc
          simp only [H3.res]
          generalize (headsOf rs fr x).f = m at HG HV ⊢
          go_wp2_with (at_builtin; refine wpList_append_own _ rfl _ _ 40 rfl w.heap.size 3 i0 _ 1 8 Try.underlying40 hi hz0 hz1 hz2 rfl (by decide) _ _ _ rfl (World.ownsRow.alloc hown2 _) ⟨w2.heap.size, 0, none⟩ 1 1 [.int .i64 m] rfl rfl ?c1 ?c2 ?c3 ?c4 ?c5 ?_)
          case c1 => exact one_new _ _ _
          case c2 => exact one_one _
          case c3 => unfold maxLen; omega
          case c4 => omega
          case c5 => have := hb3.size; simp; omega
          intro v3 w3 hown3 hg3 _
          have hI3 := hI.next (b_own (bmk hb3 _) (World.ownsRow.alloc hown2 _) (Nat.le_refl _) hg3)
          have hb4 := b_own (bmk hb3 _) (World.ownsRow.alloc hown2 _) (Nat.le_refl _) hg3
          have hown4 : w3.ownsRow w.heap.size 3 1 v3 (acc.length + 1) ((acc ++ [m]).map (Value.int .i64)) := by rw [List.map_append]; exact hown3
          obtain ⟨A4, c4, rfl, _, hown5⟩ := OwnI.of hown4
          clear hown2 hb3 hown3 hg3 hown4
          obtain ⟨b3, off3, x', e3, hbl2, hx2, hc2⟩ := hI3.at_ hlt
          obtain ⟨rfl, rfl, _⟩ := (by simpa using e3 : _ = b3 ∧ _ = off3)
          clear e3
          rw [unhide HX] at hx2
          obtain rfl := Option.some.inj hx2
          clear hx2 HX
          go_wp2
          go_roundw
          case rel => exact ⟨k + 1, _, A4, c4, acc ++ [m], by omega, by go_num, rfl, by simp, hown5, by simp; omega, .inr trivial, HG, hb4⟩
          case measure => simp [intOf]; omega
    · have HG : Hid (pageHeads rs es = acc) := by
        show _ = _
        rcases unhide hval with ⟨rfl, rfl⟩ | h1
        · have := unhide HL2
          obtain rfl : es = [] := List.eq_nil_of_length_eq_zero (by omega)
          rw [unhide H]; cases headsValid rs <;> rfl
        · rw [unhide H, h1, unhide hgo, drop_end (by rw [unhide HL2]; omega), pGo]; rfl
      go_wp2
      go_ret
      rw [unhide HG]
      exact ⟨AO, cO, rfl, hown, hb⟩
end Go.Proofs.Ytdjilkohnhejiaa
