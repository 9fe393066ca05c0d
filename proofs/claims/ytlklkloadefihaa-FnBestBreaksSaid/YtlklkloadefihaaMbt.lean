/- BestBreaks on the program's side: contract. · Tables of rows of four: in memory, and what they say of the best breaks. No condition. -/
import Derived.Test.YtlklkloadefihaaBestA
import Derived.Carry
import Derived.Test.YtlklkloadefihaaMgl
import Derived.Test.YtlklkloadefihaaMc
import Derived.OwnWalk
namespace Go.Proofs.Ytlklkloadefihaa
open Go.RowKit
set_option linter.unusedVariables false

theorem bestBr_not {rs : List Item} {width most : Int} (h : argsB rs width most = false) : bestBreaks rs width most = [] ∧ (bestBr rs width most).isSome = false := by
  simp [bestBreaks, bestBr, h]
/-- What a slice holds that is as long as one. -/
def lenSl (v : Value) : Nat := match v with | .slice _ n _ => n | _ => 0
theorem ChM.keep {rs : List Item} {width most : Int} {A : Option Addr} {n c gC bm cnt : Nat} {w w' : World} {row : Option Nat} (h : ChM rs width most A n c gC bm cnt w) (hg : w.grownBy w' row) (h1 : some gC ≠ row) (h2 : some bm ≠ row) (hi : ItemsAt w' A n c rs) : ChM rs width most A n c gC bm cnt w' := by
  obtain ⟨D, hm, ok⟩ := h.map
  have hl := map_lt hm
  obtain ⟨es, clock, hh, r⟩ := hm
  exact ⟨hi, h.blk.grown hg h1, D, ⟨es, clock, (hg.block bm hl h2).trans hh, r⟩, ok⟩
theorem own_kept {w w' : World} {B c k : Nat} {A : Option Addr} {xs : List Int} (h : OwnI w B A c xs) (hg : w.grownBy w' (some k)) (hk : k < B) : OwnI w' B A c xs :=
  World.ownsRow.kept h hg (by
    cases hv : (Value.slice A xs.length c).ownBlock with
    | none => exact .inl rfl
    | some b => exact .inr (fun e => by have := (World.ownsRow.lt h b hv).1; injection e with e; omega))
theorem own_ne {w : World} {B c k : Nat} {A : Option Addr} {xs : List Int} (h : OwnI w B A c xs) (hk : k < B) : some k ≠ (Value.slice A xs.length c).ownBlock := by
  intro e
  have := (World.ownsRow.lt h k e.symm).1
  omega
theorem own_set {w : World} {B c : Nat} {A : Option Addr} {xs : List Int} (h : OwnI w B A c xs) {p : Addr} (hp : p.block < B) (u : Value) : OwnI (w.setCell p u) B A c xs :=
  own_kept h (k := p.block) ⟨rfl, rfl, rfl, by simp [World.setCell], fun i hi hne => Below.heap_setCell w p u i (fun e => hne (by rw [e]))⟩ hp
theorem bestBr_no {rs : List Item} {width most : Int} {s : St} {acc l : List Int} {X : Option (List Int)} (h : X = if 0 ≤ (best rs width most s).cost then some (acc ++ l) else Option.none) (hc : (best rs width most s).cost < 0) : X = Option.none := by
  rw [h, if_neg (by omega)]
set_option maxRecDepth 100000 in
set_option maxHeartbeats 3200000 in
theorem c_bestBreaks (A : Option Addr) (n c : Nat) (rs : List Item) (width most : Int) (w : World) (hR : ItemsAt w A n c rs) :
    Calls Try.prog 29 #[.slice A n c, .int .i64 width, .int .i64 most] w fun e w' => ∃ A' c', e = .returned (.tuple #[.slice A' (bestBreaks rs width most).length c', .bool (bestBr rs width most).isSome]) ∧ OwnI w' w.heap.size A' c' (bestBreaks rs width most) ∧ Below w.heap.size w w' := by
  have hlen := hR.len
  have hbd := hR.bd
  have hmm := @run_makeMap Try.prog
  go_enter Try.func29, Try.ntmps29
  go_wp2_with fail
  refine (c_lineArguments A n c rs width most _ hR).mono ?_
  rintro e w1 ⟨rfl, hb1⟩
  cases hargs : argsB rs width most
  · have H := hide (bestBr_not hargs)
    clear hlen
    go_wp2
    go_ret2
    rw [(unhide H).1, (unhide H).2]
    exact ⟨none, 0, rfl, OwnI.nil_ _ _, hb1⟩
  · obtain ⟨hv, hn0, ⟨hw0, hw1⟩, hm0, hm1⟩ := argsB_iff.1 hargs
    have hn60 := (itemsValid_iff.1 hv).2
    have HV := hide hv
    rw [hlen] at hn60 hn0
    have HLEN := hide hlen
    obtain ⟨X, HX⟩ : ∃ X, Hid (bestBr rs width most = X) := ⟨_, rfl⟩
    have HX2 : Hid (X = if 0 ≤ (best rs width most St.start).cost then some (follow rs width most n St.start) else Option.none) := by show _ = _; rw [← unhide HX, bestBr, if_pos hargs, hlen]
    have HXB : Hid (bestBreaks rs width most = X.getD []) := by show _ = _; rw [bestBreaks, unhide HX]
    clear hlen hv hargs
    have hR1 := hR.next hb1
    go_wp2
    have hM0 : ChM rs width most A n c (w1.heap.size + 1) w1.heap.size 0 ((w1.alloc (.map #[] 0)).alloc (.cells #[.slice A n c, .int .i64 width, .int .i64 most, .map (some w1.heap.size)] 77)) := by
      refine ⟨hR1.next (bmk (bof _ _) _), ?_, .map [], map_next (map_new w1) (bof _ _), mapOk_new _ _ _⟩
      have q := Blk.new (w1.alloc (.map #[] 0)) 77 #[.slice A n c, .int .i64 width, .int .i64 most, .map (some w1.heap.size)]
      simpa only [size_alloc'] using q
    have hM1 := hM0.next (bof _ (.cells #[.int .i64 (-1), .bool false, .int .i64 0] 71))
    have kb := Blk.new ((w1.alloc (.map #[] 0)).alloc (.cells #[.slice A n c, .int .i64 width, .int .i64 most, .map (some w1.heap.size)] 77)) 71 #[.int .i64 (-1), .bool false, .int .i64 0]
    simp only [size_alloc'] at kb
    have hbB := bmk (bmk (bmk hb1 (.map #[] 0)) (.cells #[.slice A n c, .int .i64 width, .int .i64 most, .map (some w1.heap.size)] 77)) (.cells #[.int .i64 (-1), .bool false, .int .i64 0] 71)
    generalize hwS : (((w1.alloc (.map #[] 0)).alloc (.cells #[.slice A n c, .int .i64 width, .int .i64 most, .map (some w1.heap.size)] 77)).alloc (.cells #[.int .i64 (-1), .bool false, .int .i64 0] 71)) = wS at hM1 kb hbB ⊢
    clear hwS hM0 hmm
    have hqw := hb1.size
    obtain ⟨q, HQ⟩ : ∃ q, Hid (w1.heap.size = q) := ⟨_, hide rfl⟩
    rw [unhide HQ] at hM1 kb hqw ⊢
    go_loopw [10] (fun o wr => ∃ (sa : Int) (sk : Bool) (sl : Int) (f cnt : Nat) (A2 : Option Addr) (c2 : Nat) (acc : List Int), -1 ≤ sa ∧ sa < n ∧ 0 ≤ sl ∧ sl ≤ 3 ∧ o = .slice A2 acc.length c2 ∧ (acc.length : Int) ≤ sa + 1 ∧ Hid (left rs ⟨sa, sk, sl⟩ ≤ f) ∧ Hid (X = if 0 ≤ (best rs width most ⟨sa, sk, sl⟩).cost then some (acc ++ follow rs width most f ⟨sa, sk, sl⟩) else Option.none) ∧ Hid (cnt + 2 ^ (left rs ⟨sa, sk, sl⟩ + 1) ≤ 2305843009213693952) ∧ ChM rs width most A n c (q + 1) q cnt wr ∧ Blk wr (q + 1 + 1) 71 #[.int .i64 sa, .bool sk, .int .i64 sl] ∧ OwnI wr (q + 1 + 1 + 1) A2 c2 acc ∧ Below w.heap.size w wr) (fun o _ => n - lenSl o)
    case atStart =>
      refine ⟨-1, false, 0, n, 0, none, 0, [], by omega, by omega, by omega, by omega, rfl, by simp, ?_, ?_, ?_, hM1, kb, OwnI.nil_ _ _, hbB⟩
      · show _ ≤ _; unfold left; dsimp only; rw [unhide HLEN]; omega
      · show _ = _; rw [unhide HX2]; rfl
      · show _ ≤ _
        have : left rs ⟨-1, false, 0⟩ = n := by unfold left; dsimp only; rw [unhide HLEN]; omega
        rw [this]
        have := Nat.pow_le_pow_right (n := 2) (by omega) (show n + 1 ≤ 61 by omega)
        omega
    case round =>
      clear hM1 kb hbB HX2
      obtain ⟨sa, sk, sl, f, cnt, A2, c2, acc, h1, h2, h3, h4, rfl, hal, hleft, hX, hcn, hM, kb, hown, hb⟩ := hrel
      have b0 : wr.cell? ⟨q + 1 + 1, 0, none⟩ = some (.int .i64 sa) := kb.cell 0
      have b1 : wr.cell? ⟨q + 1 + 1, 1, none⟩ = some (.bool sk) := kb.cell 1
      have b2 : wr.cell? ⟨q + 1 + 1, 2, none⟩ = some (.int .i64 sl) := kb.cell 2
      by_cases hlt : sa < (n : Int) - 1
      · obtain ⟨BC, HBC⟩ : ∃ b, Hid (best rs width most ⟨sa, sk, sl⟩ = b) := ⟨_, rfl⟩
        have hleftn : left rs ⟨sa, sk, sl⟩ ≤ n := by unfold left; dsimp only; rw [unhide HLEN]; omega
        have hp2 : 2 ^ (left rs ⟨sa, sk, sl⟩ + 1) = 2 ^ left rs ⟨sa, sk, sl⟩ + 2 ^ left rs ⟨sa, sk, sl⟩ := by rw [Nat.pow_succ]; omega
        have hcn2 := unhide hcn
        rw [hp2] at hcn2
        obtain ⟨P, HP⟩ : ∃ P, Hid (2 ^ left rs ⟨sa, sk, sl⟩ = P) := ⟨_, hide rfl⟩
        rw [unhide HP] at hcn2
        have hcall := c_chBest rs width most A n c (q + 1) q (unhide HV) (unhide HLEN) hn0 n sa sk sl cnt wr h1 h2 h3 h4 hleftn (by rw [unhide HP]; omega) hM
        have HFS := hide (fun hc => follow_step (rs := rs) (width := width) (most := most) (s := ⟨sa, sk, sl⟩) (f := f) h1 (by dsimp only; rw [unhide HLEN]; exact hlt) (unhide hleft) hc)
        have HNO := hide (fun hc => bestBr_no (unhide hX) hc)
        rw [unhide HP] at hcall
        have hX2 := unhide hX
        rw [unhide HBC] at hcall hX2
        have HNO2 := unhide HNO
        rw [unhide HBC] at HNO2
        have HFS2 := unhide HFS
        rw [unhide HBC] at HFS2
        obtain ⟨bc, ba, bk, bl⟩ := BC
        simp only [Ch.val] at hcall HNO2 hX2 HFS2
        have HC := hide hcall
        have HNO3 := hide HNO2
        have HX3 := hide hX2
        have HFS3 := hide HFS2
        clear hcall HNO2 hX2 hp2 hcn hX HNO HFS HFS2 hleftn
        go_wp2_with fail
        refine (unhide HC).mono ?_
        rintro e2 w2 ⟨rfl, cnt2, hcnt2, hM2, hg2⟩
        have kb2 := kb.grown hg2 (blk_ne hM kb)
        have own2 := own_kept hown hg2 (by omega)
        have hb2 : Below w.heap.size w w2 := hb.grown hg2 hb.size (fun k e => by injection e with e; omega)
        have hl2 := kb2.lt
        have f0 := kb2.frozen 0
        have f1 := kb2.frozen 1
        have f2 := kb2.frozen 2
        have d0 : w2.cell? ⟨q + 1 + 1, 0, none⟩ = some (.int .i64 sa) := kb2.cell 0
        have d1 : w2.cell? ⟨q + 1 + 1, 1, none⟩ = some (.bool sk) := kb2.cell 1
        have d2 : w2.cell? ⟨q + 1 + 1, 2, none⟩ = some (.int .i64 sl) := kb2.cell 2
        clear kb hown hM hb HC b0 b1 b2
        by_cases hc : bc < 0
        · have H : Hid (X = Option.none) := unhide HNO3 hc
          clear HNO3 HX3 HFS3 hleft
          go_wp2
          go_ret2
          rw [unhide HXB, unhide HX, unhide H]
          exact ⟨none, 0, rfl, OwnI.nil_ _ _, bmk hb2 _⟩
        · obtain ⟨g, hf, hlg, hcb, hlt2, hltn, hl0, hl3, hmk⟩ := unhide HFS3 (by omega)
          have hc' : decide (bc < 0) = false := by simpa using hc
          have oA : OwnI ((((w2.setCell ⟨q + 1 + 1, 0, none⟩ (.int .i64 ba)).setCell ⟨q + 1 + 1, 1, none⟩ (.bool bk)).setCell ⟨q + 1 + 1, 2, none⟩ (.int .i64 bl)).alloc (.cells #[.int .i64 bc, .int .i64 ba, .bool bk, .int .i64 bl] 79)) (q + 1 + 1 + 1) A2 c2 acc := (own_set (own_set (own_set own2 (p := ⟨q + 1 + 1, 0, none⟩) (by dsimp only; omega) _) (p := ⟨q + 1 + 1, 1, none⟩) (by dsimp only; omega) _) (p := ⟨q + 1 + 1, 2, none⟩) (by dsimp only; omega) _).next (bof _ _)
          have kA : Blk ((((w2.setCell ⟨q + 1 + 1, 0, none⟩ (.int .i64 ba)).setCell ⟨q + 1 + 1, 1, none⟩ (.bool bk)).setCell ⟨q + 1 + 1, 2, none⟩ (.int .i64 bl)).alloc (.cells #[.int .i64 bc, .int .i64 ba, .bool bk, .int .i64 bl] 79)) (q + 1 + 1) 71 #[.int .i64 ba, .bool bk, .int .i64 bl] := by
            simpa using (((kb2.set_ 0 (.int .i64 ba)).set_ 1 (.bool bk)).set_ 2 (.int .i64 bl)).alloc (.cells #[.int .i64 bc, .int .i64 ba, .bool bk, .int .i64 bl] 79)
          have hA2 : ∀ b off, A = some ⟨b, off, none⟩ → b ≠ q + 1 + 1 := fun b off e => by
            obtain ⟨b', off', e', hl', _⟩ := Rd.cells hR.1 hn0
            rw [e] at e'
            cases e'
            omega
          have mA : ChM rs width most A n c (q + 1) q cnt2 ((((w2.setCell ⟨q + 1 + 1, 0, none⟩ (.int .i64 ba)).setCell ⟨q + 1 + 1, 1, none⟩ (.bool bk)).setCell ⟨q + 1 + 1, 2, none⟩ (.int .i64 bl)).alloc (.cells #[.int .i64 bc, .int .i64 ba, .bool bk, .int .i64 bl] 79)) := (((hM2.put (p := ⟨q + 1 + 1, 0, none⟩) (by dsimp only; omega) (by dsimp only; omega) hA2 _).put (p := ⟨q + 1 + 1, 1, none⟩) (by dsimp only; omega) (by dsimp only; omega) hA2 _).put (p := ⟨q + 1 + 1, 2, none⟩) (by dsimp only; omega) (by dsimp only; omega) hA2 _).next (bof _ _)
          have bA : Below w.heap.size w ((((w2.setCell ⟨q + 1 + 1, 0, none⟩ (.int .i64 ba)).setCell ⟨q + 1 + 1, 1, none⟩ (.bool bk)).setCell ⟨q + 1 + 1, 2, none⟩ (.int .i64 bl)).alloc (.cells #[.int .i64 bc, .int .i64 ba, .bool bk, .int .i64 bl] 79)) := by
            refine bmk ?_ _
            repeat (refine Below.setCell ?_ (by dsimp only; omega) _)
            exact hb2
          have hszA := kA.lt
          have hleft2 : left rs ⟨ba, bk, bl⟩ + 1 ≤ left rs ⟨sa, sk, sl⟩ := by unfold left; dsimp only; omega
          have hXn : Hid (X = if 0 ≤ (best rs width most ⟨ba, bk, bl⟩).cost then some ((acc ++ [ba]) ++ follow rs width most g ⟨ba, bk, bl⟩) else Option.none) := by
            show _ = _
            rw [unhide HX3, if_pos (by omega), if_pos hcb, hf, List.append_assoc]; rfl
          have hcn3 : Hid (cnt2 + 2 ^ (left rs ⟨ba, bk, bl⟩ + 1) ≤ 2305843009213693952) := by
            show _ ≤ _
            have h1 := Nat.pow_le_pow_right (n := 2) (by omega) hleft2
            rw [unhide HP] at h1
            omega
          have HLG := hide hlg
          rw [unhide HLEN] at hltn
          clear hf hmk hcb HNO3 HX3 HFS3 hleft hM2 hg2 kb2 own2 hlg hleft2
          go_wp2_with (at_builtin; refine wpList_push_L ba rfl rfl oA rfl rfl (by simp) (by omega) (by omega) ?_; intro A3 c3 w3 hown3 hg3 ho3 _)
          go_roundw
          case rel =>
            have hb3 := b_own (bmk bA _) ho3 (by omega) hg3
            refine ⟨ba, bk, bl, g, cnt2, A3, c3, acc ++ [ba], by omega, by omega, hl0, hl3, by simp, by simp; omega, HLG, hXn, hcn3, ?_, ?_, hown3, hb3⟩
            · exact (mA.next (bof _ _)).keep hg3 (own_ne ho3 (by omega)) (own_ne ho3 (by omega)) (hR.next hb3)
            · exact Blk.grown (kA.alloc _) hg3 (own_ne ho3 (by omega))
          case measure => simp [lenSl]; omega
      · obtain rfl : sa = (n : Int) - 1 := by omega
        have H : Hid (X = some acc) := by
          show _ = _
          rw [unhide hX, best_end (by dsimp only; rw [unhide HLEN]), follow_end (by dsimp only; rw [unhide HLEN])]
          simp [Ch.zero]
        clear hX hleft hcn
        go_wp2
        go_ret2
        rw [unhide HXB, unhide HX, unhide H]
        exact ⟨_, _, rfl, own_base hown (by omega), hb⟩
end Go.Proofs.Ytlklkloadefihaa

namespace Go.Proofs.Ytlklkloadefihaa
open Go.RowKit
set_option linter.unusedVariables false

/-! ### a block whose cells are told by a function -/
def upd {α : Type} (f : Nat → α) (k : Nat) (u : α) : Nat → α := fun i => if i = k then u else f i
theorem upd_same {α : Type} (f : Nat → α) (k : Nat) (u : α) : upd f k u k = u := by simp [upd]
theorem upd_ne {α : Type} (f : Nat → α) {k i : Nat} (u : α) (h : i ≠ k) : upd f k u i = f i := by simp [upd, h]
def Tab (w : World) (g : Nat) (t : TypeId) (N : Nat) (f : Nat → Value) : Prop := Blk w g t (Array.ofFn (n := N) fun i => f i.val)
section tab
variable {w w' : World} {g N k : Nat} {t : TypeId} {f : Nat → Value}
theorem Tab.lt (h : Tab w g t N f) : g < w.heap.size := Blk.lt h
theorem Tab.cell (h : Tab w g t N f) (hk : k < N) : w.cell? ⟨g, k, none⟩ = some (f k) := by
  rw [Blk.cell h k]; simp [hk]
theorem Tab.frozen (h : Tab w g t N f) (k : Nat) : w.frozen? ⟨g, k, none⟩ = false := Blk.frozen h k
theorem Tab.next (h : Tab w g t N f) (hb : Below w.heap.size w w') : Tab w' g t N f := Blk.next h hb
theorem Tab.alloc (h : Tab w g t N f) (o : Obj) : Tab (w.alloc o) g t N f := Blk.alloc h o
theorem Tab.drew (h : Tab w g t N f) : Tab w.drew g t N f := h
theorem Tab.grown {row : Option Nat} (h : Tab w g t N f) (hb : w.grownBy w' row) (hg : some g ≠ row) : Tab w' g t N f := Blk.grown h hb hg
theorem Tab.far (h : Tab w g t N f) {p : Addr} (hp : g ≠ p.block) (u : Value) : Tab (w.setCell p u) g t N f := Blk.far h hp u
theorem Tab.put (h : Tab w g t N f) (k : Nat) (u : Value) : Tab (w.setCell ⟨g, k, none⟩ u) g t N (upd f k u) := by
  have h1 := Blk.set_ h k u
  unfold Tab
  have e : (Array.ofFn (n := N) fun i => f i.val).setIfInBounds k u = Array.ofFn (n := N) fun i => upd f k u i.val := by
    apply Array.ext
    · simp
    · intro i h1 h2
      simp at h1
      rw [Array.getElem_setIfInBounds (by simpa using h1)]
      by_cases hik : k = i
      · subst hik; simp [upd]
      · rw [if_neg hik]; simp [upd, show i ≠ k by omega]
  rw [← e]; exact h1
theorem Tab.putI {V : Nat → Int} (h : Tab w g t N fun i => .int .i64 (V i)) (k : Nat) (x : Int) : Tab (w.setCell ⟨g, k, none⟩ (.int .i64 x)) g t N fun i => .int .i64 (upd V k x i) := by
  have := h.put k (.int .i64 x)
  have e : upd (fun i => Value.int .i64 (V i)) k (.int .i64 x) = fun i => .int .i64 (upd V k x i) := by
    funext i; unfold upd; split <;> rfl
  rwa [e] at this
theorem Tab.putB {V : Nat → Bool} (h : Tab w g t N fun i => .bool (V i)) (k : Nat) (x : Bool) : Tab (w.setCell ⟨g, k, none⟩ (.bool x)) g t N fun i => .bool (upd V k x i) := by
  have := h.put k (.bool x)
  have e : upd (fun i => Value.bool (V i)) k (.bool x) = fun i => .bool (upd V k x i) := by
    funext i; unfold upd; split <;> rfl
  rwa [e] at this
theorem tab_made (w : World) (t : TypeId) (u : Value) (s n : Nat) (hs : 0 < s) : Tab (w.alloc (.cells (madeCells (Array.replicate s u) n) t)) w.heap.size t n fun _ => u := by
  have h := Blk.new w t (madeCells (Array.replicate s u) n)
  unfold Tab
  have e : madeCells (Array.replicate s u) n = Array.ofFn (n := n) fun _ => u := by
    apply Array.ext
    · simp [madeCells]
    · intro i h1 h2
      have hm : i % s < s := Nat.mod_lt _ hs
      simp [madeCells, hm]
  rw [← e]; exact h
theorem tab_at {V : Nat → Int} (h : Tab w g t N fun i => .int .i64 (V i)) (hk : k < N) : w.cell? ⟨g, k, none⟩ = some (.int .i64 (V k)) := h.cell hk
theorem tab_atB {V : Nat → Bool} (h : Tab w g t N fun i => .bool (V i)) (hk : k < N) : w.cell? ⟨g, k, none⟩ = some (.bool (V k)) := h.cell hk
end tab
/-- 'make' of a slice of a length, with its world told. -/
theorem wpList_make_tab {P : Program} (w : World) {ops : Array Oper} {rest : List Oper} {o : Oper} {a : Act} {Q : Exit → Act → World → Prop}
    (hg : o.guard = none) (l c : Operand) (t : TypeId) (hop : o.op = Op.makeSlice t l c)
    (e : TypeId) (i : TypeInfo) (z : Value) (size : Nat) (h1 : P.underlying t = some (.slice e)) (h2 : P.info? e = some i) (h3 : i.zero = some z) (h4 : i.size = size)
    (n : Nat) (L : Int) (hl : a.eval l = .int .i64 L) (hc : a.eval c = .int .i64 L) (hL : L = n) (b1 : n * size ≤ 16777216) (b2 : (i.bytes : Int) * n ≤ 281474976710656) (b3 : n ≤ 1000000)
    (hK : wpList P ops Q rest (a.put o.dst (.slice (some ⟨w.heap.size, 0, none⟩) n n)) (w.alloc (.cells (madeCells z.cells (n * size)) e))) :
    wpList P ops Q (o :: rest) a w := by
  refine wpList_plain hg fun K hK' => ?_
  subst hL
  have hrun := run_makeSlice (P := P) w t e i z h1 h2 h3 .i64 .i64 (n : Int) (n : Int) (by omega) (by omega) (by rw [h4]; simpa using b1) b2 (by omega)
  unfold Oper.wp
  simp [execOp, hop, hl, hc, hrun, Result.andThen]
  refine hK' _ _ ?_
  rw [h4]; exact hK

/-! ### what the tables say -/
structure CellIs (c : Ch) (v : Int) (g : Bool) (x : Int) : Prop where
  good : g = decide (0 ≤ c.cost)
  val : 0 ≤ c.cost → v = c.cost ∧ x = c.nx.at_
def stAt (rs : List Item) (r b : Nat) : St := ⟨(r : Int) - 1, markOf rs ((r : Int) - 1), b⟩
/-- A row in which the look of the line before is below k: as F says; else: as E says. -/
def RowIs (E F : Nat → Ch) (k : Nat) (V : Nat → Int) (G : Nat → Bool) (X : Nat → Int) (r : Nat) : Prop :=
  ∀ b, b < 4 → CellIs (if b < k then F b else E b) (V (r * 4 + b)) (G (r * 4 + b)) (X (r * 4 + b))
def rowAsked (rs : List Item) (r : Nat) : Prop := r = 0 ∨ r = rs.length ∨ breakB rs (r - 1) = true
/-- The rows from r0 on are done. -/
def RowsDone (rs : List Item) (width most : Int) (V : Nat → Int) (G : Nat → Bool) (X : Nat → Int) (r0 : Nat) : Prop :=
  ∀ r, r0 ≤ r → r ≤ rs.length → rowAsked rs r → RowIs (fun b => best rs width most (stAt rs r b)) (fun b => best rs width most (stAt rs r b)) 0 V G X r
def RowsNew (G : Nat → Bool) (r0 : Nat) : Prop := ∀ i, i < r0 * 4 → G i = false
section
variable {rs : List Item} {width most : Int} {V X : Nat → Int} {G : Nat → Bool} {E F : Nat → Ch} {r r0 k : Nat}
theorem cell_new (v x : Int) : CellIs Ch.none v false x := ⟨by simp [Ch.none], fun h => by simp [Ch.none] at h⟩
theorem row_new (h : RowsNew G (r + 1)) : RowIs (fun b => accN rs width most (best rs width most) (stAt rs r b) 0) F 0 V G X r := by
  intro b hb
  rw [if_neg (by omega), h (r * 4 + b) (by omega)]
  exact cell_new _ _
theorem row_congr {E' : Nat → Ch} (h : RowIs E F 0 V G X r) (he : ∀ b, b < 4 → E' b = E b) : RowIs E' F 0 V G X r := by
  intro b hb
  have := h b hb
  rw [if_neg (by omega)] at this ⊢
  rwa [he b hb]
theorem row_full (h : RowIs E F 4 V G X r) (F' : Nat → Ch) : RowIs F F' 0 V G X r := by
  intro b hb
  have := h b hb
  rw [if_pos hb] at this
  rwa [if_neg (by omega)]
theorem row_begin (h : RowIs E F 0 V G X r) (F' : Nat → Ch) : RowIs E F' 0 V G X r := by
  intro b hb
  have := h b hb
  rw [if_neg (by omega)] at this ⊢
  exact this
theorem row_keep (h : RowIs E F k V G X r) (hk : k < 4) (he : F k = E k) : RowIs E F (k + 1) V G X r := by
  intro b hb
  have := h b hb
  by_cases h1 : b < k
  · rw [if_pos h1] at this; rwa [if_pos (by omega)]
  · rw [if_neg h1] at this
    by_cases h2 : b = k
    · subst h2; rw [if_pos (by omega), he]; exact this
    · rwa [if_neg (by omega)]
theorem row_put (h : RowIs E F k V G X r) (hk : k < 4) (h0 : 0 ≤ (F k).cost) : RowIs E F (k + 1) (upd V (r * 4 + k) (F k).cost) (upd G (r * 4 + k) true) (upd X (r * 4 + k) (F k).nx.at_) r := by
  intro b hb
  have := h b hb
  by_cases h2 : b = k
  · subst h2
    rw [if_pos (by omega), upd_same, upd_same, upd_same]
    exact ⟨by simp [h0], fun _ => ⟨rfl, rfl⟩⟩
  · rw [upd_ne _ _ (by omega), upd_ne _ _ (by omega), upd_ne _ _ (by omega)]
    by_cases h1 : b < k
    · rw [if_pos h1] at this; rwa [if_pos (by omega)]
    · rw [if_neg h1] at this; rwa [if_neg (by omega)]
/-- A store into row r leaves the rows above it. -/
theorem done_put (h : RowsDone rs width most V G X r0) (hr : r < r0) (hk : k < 4) (v x : Int) (g : Bool) : RowsDone rs width most (upd V (r * 4 + k) v) (upd G (r * 4 + k) g) (upd X (r * 4 + k) x) r0 := by
  intro q hq hn ha b hb
  have := h q hq hn ha b hb
  rw [upd_ne _ _ (by omega), upd_ne _ _ (by omega), upd_ne _ _ (by omega)]
  exact this
theorem new_put (h : RowsNew G r) (g : Bool) : RowsNew (upd G (r * 4 + k) g) r := by
  intro i hi
  rw [upd_ne _ _ (by omega)]
  exact h i hi
theorem new_down (h : RowsNew G (r + 1)) : RowsNew G r := fun i hi => h i (by omega)
theorem done_end (hV : ∀ b, b < 4 → V (rs.length * 4 + b) = 0 ∧ G (rs.length * 4 + b) = true ∧ X (rs.length * 4 + b) = 0) : RowsDone rs width most V G X rs.length := by
  intro q hq hn ha b hb
  obtain rfl : q = rs.length := by omega
  obtain ⟨h1, h2, h3⟩ := hV b hb
  rw [if_neg (by omega)]
  dsimp only
  rw [best_end (by simp [stAt]), h1, h2, h3]
  exact ⟨by simp [Ch.zero], fun _ => ⟨rfl, rfl⟩⟩
theorem done_skip (h : RowsDone rs width most V G X (r + 1)) (hn : ¬ rowAsked rs r) : RowsDone rs width most V G X r := by
  intro q hq hl ha
  by_cases e : q = r
  · subst e; exact absurd ha hn
  · exact h q (by omega) hl ha
theorem done_row (h : RowsDone rs width most V G X (r + 1)) (hr : RowIs (fun b => best rs width most (stAt rs r b)) (fun b => best rs width most (stAt rs r b)) 0 V G X r) : RowsDone rs width most V G X r := by
  intro q hq hl ha
  by_cases e : q = r
  · subst e; exact hr
  · exact h q (by omega) hl ha
theorem left_stAt (hr : r ≤ rs.length) (b : Nat) : left rs (stAt rs r b) = rs.length - r := by unfold left stAt; dsimp only; omega
theorem row_last (h : RowIs (fun b => accN rs width most (best rs width most) (stAt rs r b) (rs.length - r)) F 0 V G X r) (hr : r < rs.length) : RowIs (fun b => best rs width most (stAt rs r b)) (fun b => best rs width most (stAt rs r b)) 0 V G X r := by
  intro b hb
  have := h b hb
  rw [if_neg (by omega)] at this ⊢
  dsimp only at this ⊢
  rw [best_eq (by simp [stAt]; omega) (by simp [stAt]; omega), left_stAt (by omega)]
  exact this
/-- No line from there to there: nothing turns. -/
theorem acc_skip {s : St} {j m : Nat} (hm : (rs.length - 1 - j : Nat) = m) (h : stepOf rs width most s (m : Int) = none) : accN rs width most (best rs width most) s (j + 1) = accN rs width most (best rs width most) s j := by
  rw [accN, updC, hm, h]
theorem acc_step {s e : St} {j m : Nat} {q : Int} (hm : (rs.length - 1 - j : Nat) = m) (h : stepOf rs width most s (m : Int) = some (q, e)) : accN rs width most (best rs width most) s (j + 1) =
    if 0 ≤ (best rs width most e).cost ∧ ((accN rs width most (best rs width most) s j).cost < 0 ∨ q + (best rs width most e).cost < (accN rs width most (best rs width most) s j).cost) then ⟨q + (best rs width most e).cost, e⟩ else accN rs width most (best rs width most) s j := by
  rw [accN, updC, hm, h]
theorem follow_first {m m' : Bool} {l l' : Int} (hn : 0 < rs.length) (f : Nat) : follow rs width most f ⟨-1, m, l⟩ = follow rs width most f ⟨-1, m', l'⟩ := by
  cases f with
  | zero => rfl
  | succ f =>
    rw [follow, follow, best_first (m := m) (m' := m') (l := l) (l' := l') hn]
/-- The state that comes next, as the reference has it. -/
theorem next_st {s : St} (h1 : -1 ≤ s.at_) (h2 : s.at_ < (rs.length : Int) - 1) (hc : 0 ≤ (best rs width most s).cost) :
    0 ≤ (lineBad rs s.at_ (best rs width most s).nx.at_ width).1 ∧ (best rs width most s).nx.looks = looksOf (lineBad rs s.at_ (best rs width most s).nx.at_ width).2 (lineBad rs s.at_ (best rs width most s).nx.at_ width).1 := by
  rcases best_ok (rs := rs) (width := width) (most := most) h1 h2 with h | ⟨k, hs, h0, _⟩
  · rw [h] at hc; simp [Ch.none] at hc
  · unfold stepOf at hs
    split at hs
    · cases hs
    · rename_i hn
      refine ⟨by omega, ?_⟩
      simp only [Option.some.injEq, Prod.mk.injEq] at hs
      have := congrArg St.looks hs.2
      exact this.symm
end
theorem row_put' {E F : Nat → Ch} {k r : Nat} {V X : Nat → Int} {G : Nat → Bool} {S x : Int} {ex : St} (h : RowIs E F k V G X r) (hk : k < 4) (hF : F k = ⟨S, ex⟩) (h0 : 0 ≤ S) (hx : ex.at_ = x) : RowIs E F (k + 1) (upd V (r * 4 + k) S) (upd G (r * 4 + k) true) (upd X (r * 4 + k) x) r := by
  have := row_put h hk (by rw [hF]; exact h0)
  rw [hF] at this
  rw [← hx]; exact this
theorem tab_made4 (w : World) (t : TypeId) (u : Value) (n : Nat) : Tab (w.alloc (.cells (madeCells #[u, u, u, u] n) t)) w.heap.size t n fun _ => u := tab_made w t u 4 n (by omega)
section
variable {rs : List Item} {width most : Int} {V X : Nat → Int} {G : Nat → Bool}
theorem lineBad_in {after to : Int} (hv : itemsValid rs = true) (hl : lineOk rs after to = true) (hw : 0 ≤ width ∧ width ≤ 1000) : lineBad rs after to width = badOf (lineTot rs after to) width := by
  rw [lineBad, if_pos (fitsB_iff.2 ⟨hv, hl, hw⟩)]
theorem step_notOk {s : St} {to : Int} (hl : lineOk rs s.at_ to = false) : stepOf rs width most s to = none := by
  have : lineBad rs s.at_ to width = (-1, false) := by
    rw [lineBad, fitsB, hl]; simp
  rw [stepOf, this]; simp
theorem step_no {s : St} {to bad : Int} {st : Bool} (h : lineBad rs s.at_ to width = (bad, st)) (hn : bad < 0 ∨ most < bad) : stepOf rs width most s to = none := by
  rw [stepOf, h, if_pos hn]
theorem lineOk_break {after : Int} {m : Nat} (h : lineOk rs after (m : Int) = true) : breakB rs m = true := by
  simp only [lineOk, Bool.and_eq_true] at h
  have := h.2.1
  rwa [mayB_nat] at this
theorem stAt_zero {b : Nat} (hn : 0 < rs.length) : best rs width most (stAt rs 0 b) = best rs width most St.start := best_first hn
theorem follow_zero {b : Nat} (hn : 0 < rs.length) (f : Nat) : follow rs width most f (stAt rs 0 b) = follow rs width most f St.start := follow_first hn f
/-- The states that can come behind a row: those of the rows below. -/
theorem end_st {m : Nat} {L : Nat} : (⟨(m : Int), (itAt rs m).mark, (L : Int)⟩ : St) = stAt rs (m + 1) L := by
  unfold stAt
  have e : (((m + 1 : Nat) : Int) - 1) = (m : Int) := by omega
  rw [e]
  simp [markOf]
end
end Go.Proofs.Ytlklkloadefihaa
