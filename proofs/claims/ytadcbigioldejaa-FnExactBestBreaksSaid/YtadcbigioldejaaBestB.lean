/- BestBreaks on the program's side: contract. No condition. -/
import Derived.Test.YtadcbigioldejaaBestA
import Derived.Carry
import Derived.Test.YtadcbigioldejaaSetR
namespace Go.Proofs.Ytadcbigioldejaa
open Go.RowKit
set_option linter.unusedVariables false

theorem bestBr_not {rs : List Item} {width most : Int} (h : argsB rs width most = false) : bestBreaks rs width most = [] ∧ (bestBr rs width most).isSome = false := by
  simp [bestBreaks, bestBr, h]
/-- What a slice holds that is as long as one. -/
def lenSl (v : Value) : Nat := match v with | .slice _ n _ => n | _ => 0
theorem ChM.keep {rs : List Item} {width most : Int} {A : Option Addr} {n c gC bm cnt : Nat} {w w' : World} {row : Option Nat} (h : ChM rs width most A n c gC bm cnt w) (hg : w.grownBy w' row) (h1 : some gC ≠ row) (h2 : some bm ≠ row) (hi : ItemsAt w' A n c rs) : ChM rs width most A n c gC bm cnt w' := by
  obtain ⟨D, hm, ok⟩ := h.map
  have hl := map_lt hm
  obtain ⟨es, clock, hh, r⟩ := hm
  exact ⟨hi, h.blk.grown hg h1, D, ⟨es, clock, (hg.block bm hl h2).trans hh, r⟩, ok⟩
theorem own_kept {w w' : World} {B c k : Nat} {A : Option Addr} {xs : List Int} (h : OwnI w B A c xs) (hg : w.grownBy w' (some k)) (hk : k < B) : OwnI w' B A c xs :=
  World.ownsRow.kept h hg (by
    cases hv : (Value.slice A xs.length c).ownBlock with
    | none => exact .inl rfl
    | some b => exact .inr (fun e => by have := (World.ownsRow.lt h b hv).1; injection e with e; omega))
theorem own_ne {w : World} {B c k : Nat} {A : Option Addr} {xs : List Int} (h : OwnI w B A c xs) (hk : k < B) : some k ≠ (Value.slice A xs.length c).ownBlock := by
  intro e
  have := (World.ownsRow.lt h k e.symm).1
  omega
theorem own_set {w : World} {B c : Nat} {A : Option Addr} {xs : List Int} (h : OwnI w B A c xs) {p : Addr} (hp : p.block < B) (u : Value) : OwnI (w.setCell p u) B A c xs :=
  own_kept h (k := p.block) ⟨rfl, rfl, rfl, by simp [World.setCell], fun i hi hne => Below.heap_setCell w p u i (fun e => hne (by rw [e]))⟩ hp
theorem bestBr_no {rs : List Item} {width most : Int} {s : St} {acc l : List Int} {X : Option (List Int)} (h : X = if 0 ≤ (best rs width most s).cost then some (acc ++ l) else Option.none) (hc : (best rs width most s).cost < 0) : X = Option.none := by
  rw [h, if_neg (by omega)]
set_option maxRecDepth 100000 in
set_option maxHeartbeats 3200000 in
theorem c_bestBreaks (A : Option Addr) (n c : Nat) (rs : List Item) (width most : Int) (w : World) (hR : ItemsAt w A n c rs) :
    Calls Try.prog 31 #[.slice A n c, .int .i64 width, .int .i64 most] w fun e w' => ∃ A' c', e = .returned (.tuple #[.slice A' (bestBreaks rs width most).length c', .bool (bestBr rs width most).isSome]) ∧ OwnI w' w.heap.size A' c' (bestBreaks rs width most) ∧ Below w.heap.size w w' := by
  have hlen := hR.len
  have hbd := hR.bd
  have hmm := @run_makeMap Try.prog
  go_enter Try.func31, Try.ntmps31
  go_wp2_with fail
  refine (c_lineArguments A n c rs width most _ hR).mono ?_
  rintro e w1 ⟨rfl, hb1⟩
  cases hargs : argsB rs width most
  · have H := hide (bestBr_not hargs)
    clear hlen
    go_wp2
    go_ret2
    rw [(unhide H).1, (unhide H).2]
    exact ⟨none, 0, rfl, OwnI.nil_ _ _, hb1⟩
  · obtain ⟨hv, hn0, ⟨hw0, hw1⟩, hm0, hm1⟩ := argsB_iff.1 hargs
    have hn60 := (itemsValid_iff.1 hv).2
    have HV := hide hv
    rw [hlen] at hn60 hn0
    have HLEN := hide hlen
    obtain ⟨X, HX⟩ : ∃ X, Hid (bestBr rs width most = X) := ⟨_, rfl⟩
    have HX2 : Hid (X = if 0 ≤ (best rs width most St.start).cost then some (follow rs width most n St.start) else Option.none) := by show _ = _; rw [← unhide HX, bestBr, if_pos hargs, hlen]
    have HXB : Hid (bestBreaks rs width most = X.getD []) := by show _ = _; rw [bestBreaks, unhide HX]
    clear hlen hv hargs
    have hR1 := hR.next hb1
    go_wp2
    have hM0 : ChM rs width most A n c (w1.heap.size + 1) w1.heap.size 0 ((w1.alloc (.map #[] 0)).alloc (.cells #[.slice A n c, .int .i64 width, .int .i64 most, .map (some w1.heap.size)] 83)) := by
      refine ⟨hR1.next (bmk (bof _ _) _), ?_, .map [], map_next (map_new w1) (bof _ _), mapOk_new _ _ _⟩
      have q := Blk.new (w1.alloc (.map #[] 0)) 83 #[.slice A n c, .int .i64 width, .int .i64 most, .map (some w1.heap.size)]
      simpa only [size_alloc'] using q
    have hM1 := hM0.next (bof _ (.cells #[.int .i64 (-1), .bool false, .int .i64 0] 64))
    have kb := Blk.new ((w1.alloc (.map #[] 0)).alloc (.cells #[.slice A n c, .int .i64 width, .int .i64 most, .map (some w1.heap.size)] 83)) 64 #[.int .i64 (-1), .bool false, .int .i64 0]
    simp only [size_alloc'] at kb
    have hbB := bmk (bmk (bmk hb1 (.map #[] 0)) (.cells #[.slice A n c, .int .i64 width, .int .i64 most, .map (some w1.heap.size)] 83)) (.cells #[.int .i64 (-1), .bool false, .int .i64 0] 64)
    generalize hwS : (((w1.alloc (.map #[] 0)).alloc (.cells #[.slice A n c, .int .i64 width, .int .i64 most, .map (some w1.heap.size)] 83)).alloc (.cells #[.int .i64 (-1), .bool false, .int .i64 0] 64)) = wS at hM1 kb hbB ⊢
    clear hwS hM0 hmm
    have hqw := hb1.size
    obtain ⟨q, HQ⟩ : ∃ q, Hid (w1.heap.size = q) := ⟨_, hide rfl⟩
    rw [unhide HQ] at hM1 kb hqw ⊢
    go_loopw [10] (fun o wr => ∃ (sa : Int) (sk : Bool) (sl : Int) (f cnt : Nat) (A2 : Option Addr) (c2 : Nat) (acc : List Int), -1 ≤ sa ∧ sa < n ∧ 0 ≤ sl ∧ sl ≤ 3 ∧ o = .slice A2 acc.length c2 ∧ (acc.length : Int) ≤ sa + 1 ∧ Hid (left rs ⟨sa, sk, sl⟩ ≤ f) ∧ Hid (X = if 0 ≤ (best rs width most ⟨sa, sk, sl⟩).cost then some (acc ++ follow rs width most f ⟨sa, sk, sl⟩) else Option.none) ∧ Hid (cnt + 2 ^ (left rs ⟨sa, sk, sl⟩ + 1) ≤ 2305843009213693952) ∧ ChM rs width most A n c (q + 1) q cnt wr ∧ Blk wr (q + 1 + 1) 64 #[.int .i64 sa, .bool sk, .int .i64 sl] ∧ OwnI wr (q + 1 + 1 + 1) A2 c2 acc ∧ Below w.heap.size w wr) (fun o _ => n - lenSl o)
    case atStart =>
      refine ⟨-1, false, 0, n, 0, none, 0, [], by omega, by omega, by omega, by omega, rfl, by simp, ?_, ?_, ?_, hM1, kb, OwnI.nil_ _ _, hbB⟩
      · show _ ≤ _; unfold left; dsimp only; rw [unhide HLEN]; omega
      · show _ = _; rw [unhide HX2]; rfl
      · show _ ≤ _
        have : left rs ⟨-1, false, 0⟩ = n := by unfold left; dsimp only; rw [unhide HLEN]; omega
        rw [this]
        have := Nat.pow_le_pow_right (n := 2) (by omega) (show n + 1 ≤ 61 by omega)
        omega
    case round =>
      clear hM1 kb hbB HX2
      obtain ⟨sa, sk, sl, f, cnt, A2, c2, acc, h1, h2, h3, h4, rfl, hal, hleft, hX, hcn, hM, kb, hown, hb⟩ := hrel
      have b0 : wr.cell? ⟨q + 1 + 1, 0, none⟩ = some (.int .i64 sa) := kb.cell 0
      have b1 : wr.cell? ⟨q + 1 + 1, 1, none⟩ = some (.bool sk) := kb.cell 1
      have b2 : wr.cell? ⟨q + 1 + 1, 2, none⟩ = some (.int .i64 sl) := kb.cell 2
      by_cases hlt : sa < (n : Int) - 1
      · obtain ⟨BC, HBC⟩ : ∃ b, Hid (best rs width most ⟨sa, sk, sl⟩ = b) := ⟨_, rfl⟩
        have hleftn : left rs ⟨sa, sk, sl⟩ ≤ n := by unfold left; dsimp only; rw [unhide HLEN]; omega
        have hp2 : 2 ^ (left rs ⟨sa, sk, sl⟩ + 1) = 2 ^ left rs ⟨sa, sk, sl⟩ + 2 ^ left rs ⟨sa, sk, sl⟩ := by rw [Nat.pow_succ]; omega
        have hcn2 := unhide hcn
        rw [hp2] at hcn2
        obtain ⟨P, HP⟩ : ∃ P, Hid (2 ^ left rs ⟨sa, sk, sl⟩ = P) := ⟨_, hide rfl⟩
        rw [unhide HP] at hcn2
        have hcall := c_chBest rs width most A n c (q + 1) q (unhide HV) (unhide HLEN) hn0 n sa sk sl cnt wr h1 h2 h3 h4 hleftn (by rw [unhide HP]; omega) hM
        have HFS := hide (fun hc => follow_step (rs := rs) (width := width) (most := most) (s := ⟨sa, sk, sl⟩) (f := f) h1 (by dsimp only; rw [unhide HLEN]; exact hlt) (unhide hleft) hc)
        have HNO := hide (fun hc => bestBr_no (unhide hX) hc)
        rw [unhide HP] at hcall
        have hX2 := unhide hX
        rw [unhide HBC] at hcall hX2
        have HNO2 := unhide HNO
        rw [unhide HBC] at HNO2
        have HFS2 := unhide HFS
        rw [unhide HBC] at HFS2
        obtain ⟨bc, ba, bk, bl⟩ := BC
        simp only [Ch.val] at hcall HNO2 hX2 HFS2
        have HC := hide hcall
        have HNO3 := hide HNO2
        have HX3 := hide hX2
        have HFS3 := hide HFS2
        clear hcall HNO2 hX2 hp2 hcn hX HNO HFS HFS2 hleftn
        go_wp2_with fail
        refine (unhide HC).mono ?_
        rintro e2 w2 ⟨rfl, cnt2, hcnt2, hM2, hg2⟩
        have kb2 := kb.grown hg2 (blk_ne hM kb)
        have own2 := own_kept hown hg2 (by omega)
        have hb2 : Below w.heap.size w w2 := hb.grown hg2 hb.size (fun k e => by injection e with e; omega)
        have hl2 := kb2.lt
        have f0 := kb2.frozen 0
        have f1 := kb2.frozen 1
        have f2 := kb2.frozen 2
        have d0 : w2.cell? ⟨q + 1 + 1, 0, none⟩ = some (.int .i64 sa) := kb2.cell 0
        have d1 : w2.cell? ⟨q + 1 + 1, 1, none⟩ = some (.bool sk) := kb2.cell 1
        have d2 : w2.cell? ⟨q + 1 + 1, 2, none⟩ = some (.int .i64 sl) := kb2.cell 2
        clear kb hown hM hb HC b0 b1 b2
        by_cases hc : bc < 0
        · have H : Hid (X = Option.none) := unhide HNO3 hc
          clear HNO3 HX3 HFS3 hleft
          go_wp2
          go_ret2
          rw [unhide HXB, unhide HX, unhide H]
          exact ⟨none, 0, rfl, OwnI.nil_ _ _, bmk hb2 _⟩
        · obtain ⟨g, hf, hlg, hcb, hlt2, hltn, hl0, hl3, hmk⟩ := unhide HFS3 (by omega)
          have hc' : decide (bc < 0) = false := by simpa using hc
          have oA : OwnI ((((w2.setCell ⟨q + 1 + 1, 0, none⟩ (.int .i64 ba)).setCell ⟨q + 1 + 1, 1, none⟩ (.bool bk)).setCell ⟨q + 1 + 1, 2, none⟩ (.int .i64 bl)).alloc (.cells #[.int .i64 bc, .int .i64 ba, .bool bk, .int .i64 bl] 85)) (q + 1 + 1 + 1) A2 c2 acc := (own_set (own_set (own_set own2 (p := ⟨q + 1 + 1, 0, none⟩) (by dsimp only; omega) _) (p := ⟨q + 1 + 1, 1, none⟩) (by dsimp only; omega) _) (p := ⟨q + 1 + 1, 2, none⟩) (by dsimp only; omega) _).next (bof _ _)
          have kA : Blk ((((w2.setCell ⟨q + 1 + 1, 0, none⟩ (.int .i64 ba)).setCell ⟨q + 1 + 1, 1, none⟩ (.bool bk)).setCell ⟨q + 1 + 1, 2, none⟩ (.int .i64 bl)).alloc (.cells #[.int .i64 bc, .int .i64 ba, .bool bk, .int .i64 bl] 85)) (q + 1 + 1) 64 #[.int .i64 ba, .bool bk, .int .i64 bl] := by
            simpa using (((kb2.set_ 0 (.int .i64 ba)).set_ 1 (.bool bk)).set_ 2 (.int .i64 bl)).alloc (.cells #[.int .i64 bc, .int .i64 ba, .bool bk, .int .i64 bl] 85)
          have hA2 : ∀ b off, A = some ⟨b, off, none⟩ → b ≠ q + 1 + 1 := fun b off e => by
            obtain ⟨b', off', e', hl', _⟩ := Rd.cells hR.1 hn0
            rw [e] at e'
            cases e'
            omega
          have mA : ChM rs width most A n c (q + 1) q cnt2 ((((w2.setCell ⟨q + 1 + 1, 0, none⟩ (.int .i64 ba)).setCell ⟨q + 1 + 1, 1, none⟩ (.bool bk)).setCell ⟨q + 1 + 1, 2, none⟩ (.int .i64 bl)).alloc (.cells #[.int .i64 bc, .int .i64 ba, .bool bk, .int .i64 bl] 85)) := (((hM2.put (p := ⟨q + 1 + 1, 0, none⟩) (by dsimp only; omega) (by dsimp only; omega) hA2 _).put (p := ⟨q + 1 + 1, 1, none⟩) (by dsimp only; omega) (by dsimp only; omega) hA2 _).put (p := ⟨q + 1 + 1, 2, none⟩) (by dsimp only; omega) (by dsimp only; omega) hA2 _).next (bof _ _)
          have bA : Below w.heap.size w ((((w2.setCell ⟨q + 1 + 1, 0, none⟩ (.int .i64 ba)).setCell ⟨q + 1 + 1, 1, none⟩ (.bool bk)).setCell ⟨q + 1 + 1, 2, none⟩ (.int .i64 bl)).alloc (.cells #[.int .i64 bc, .int .i64 ba, .bool bk, .int .i64 bl] 85)) := by
            refine bmk ?_ _
            repeat (refine Below.setCell ?_ (by dsimp only; omega) _)
            exact hb2
          have hszA := kA.lt
          have hleft2 : left rs ⟨ba, bk, bl⟩ + 1 ≤ left rs ⟨sa, sk, sl⟩ := by unfold left; dsimp only; omega
          have hXn : Hid (X = if 0 ≤ (best rs width most ⟨ba, bk, bl⟩).cost then some ((acc ++ [ba]) ++ follow rs width most g ⟨ba, bk, bl⟩) else Option.none) := by
            show _ = _
            rw [unhide HX3, if_pos (by omega), if_pos hcb, hf, List.append_assoc]; rfl
          have hcn3 : Hid (cnt2 + 2 ^ (left rs ⟨ba, bk, bl⟩ + 1) ≤ 2305843009213693952) := by
            show _ ≤ _
            have h1 := Nat.pow_le_pow_right (n := 2) (by omega) hleft2
            rw [unhide HP] at h1
            omega
          have HLG := hide hlg
          rw [unhide HLEN] at hltn
          clear hf hmk hcb HNO3 HX3 HFS3 hleft hM2 hg2 kb2 own2 hlg hleft2
          go_wp2_with (at_builtin; refine wpList_push_L ba rfl rfl oA rfl rfl (by simp) (by omega) (by omega) ?_; intro A3 c3 w3 hown3 hg3 ho3 _)
          go_roundw
          case rel =>
            have hb3 := b_own (bmk bA _) ho3 (by omega) hg3
            refine ⟨ba, bk, bl, g, cnt2, A3, c3, acc ++ [ba], by omega, by omega, hl0, hl3, by simp, by simp; omega, HLG, hXn, hcn3, ?_, ?_, hown3, hb3⟩
            · exact (mA.next (bof _ _)).keep hg3 (own_ne ho3 (by omega)) (own_ne ho3 (by omega)) (hR.next hb3)
            · exact Blk.grown (kA.alloc _) hg3 (own_ne ho3 (by omega))
          case measure => simp [lenSl]; omega
      · obtain rfl : sa = (n : Int) - 1 := by omega
        have H : Hid (X = some acc) := by
          show _ = _
          rw [unhide hX, best_end (by dsimp only; rw [unhide HLEN]), follow_end (by dsimp only; rw [unhide HLEN])]
          simp [Ch.zero]
        clear hX hleft hcn
        go_wp2
        go_ret2
        rw [unhide HXB, unhide HX, unhide H]
        exact ⟨_, _, rfl, own_base hown (by omega), hb⟩
end Go.Proofs.Ytadcbigioldejaa
