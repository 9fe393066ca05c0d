/- Glues set to a width, the program's: contracts. No condition. -/
import Derived.Test.YtlklkloadefihaaMgl
import Derived.Test.YtlklkloadefihaaMa
import Derived.BigQuiet
import Derived.Deep.QuietTactic
import Derived.Deep.AppendLies
import Derived.Deep.RegionLaw
namespace Go.Proofs.Ytlklkloadefihaa
open Go.RowKit
set_option linter.unusedVariables false

theorem Blk.congr {w : World} {g : Nat} {t : TypeId} {cs cs' : Array Value} (h : Blk w g t cs) (e : cs = cs') : Blk w g t cs' := e ▸ h
theorem wr64 {a : Int} (h : -9223372036854775808 ≤ a ∧ a ≤ 9223372036854775807) : IntKind.i64.wrap a = a := by rw [IntKind.wrap_i64]; omega
def useOf (neg : Bool) (od : Int) (g : Gl) : Int := if neg then g.sh else if g.od = od then g.st else 0
def setGo (need all sgn : Int) (u : Gl → Int) : Int → List Gl → List Int
  | _, [] => []
  | b, g :: t => (g.w + sgn * ((need * (b + u g)).tdiv all - (need * b).tdiv all)) :: setGo need all sgn u (b + u g) t
structure SetPar where
  need : Int
  all : Int
  sgn : Int
  neg : Bool
def setPar (T : Gl) (width : Int) : SetPar :=
  if T.w ≤ width then (if T.st = 0 then ⟨0, 1, 1, false⟩ else ⟨width - T.w, T.st, 1, false⟩)
  else (if T.sh = 0 then ⟨0, 1, -1, true⟩ else ⟨min (T.w - width) T.sh, T.sh, -1, true⟩)
def setWs (gs : List Gl) (width : Int) : List Int :=
  setGo (setPar (gTot gs) width).need (setPar (gTot gs) width).all (setPar (gTot gs) width).sgn (useOf (setPar (gTot gs) width).neg (gTot gs).od) 0 gs
theorem setGo_len (need all sgn : Int) (u : Gl → Int) : ∀ (gs : List Gl) (b : Int), (setGo need all sgn u b gs).length = gs.length
  | [], _ => rfl
  | g :: t, b => by rw [setGo, List.length_cons, List.length_cons, setGo_len need all sgn u t]
theorem setWs_len (gs : List Gl) (width : Int) : (setWs gs width).length = gs.length := setGo_len _ _ _ _ _ _
theorem useOf_bd {neg : Bool} {od : Int} {g : Gl} (h : g.ok = true) : 0 ≤ useOf neg od g ∧ useOf neg od g ≤ 1000 := by
  rw [Gl.ok_iff] at h; unfold useOf; split
  · omega
  · split <;> omega
structure SetBd (p : SetPar) : Prop where
  need : 0 ≤ p.need ∧ p.need ≤ 100000
  all : 1 ≤ p.all ∧ p.all ≤ 100000
  sgn : p.sgn = 1 ∨ p.sgn = -1
theorem setPar_bd {T : Gl} {width : Int} (hw : 0 ≤ width ∧ width ≤ 100000) (h1 : 0 ≤ T.w ∧ T.w ≤ 100000) (h2 : 0 ≤ T.st ∧ T.st ≤ 100000) (h3 : 0 ≤ T.sh ∧ T.sh ≤ 100000) : SetBd (setPar T width) := by
  unfold setPar
  split
  · split
    · exact ⟨by simp, by simp, .inl rfl⟩
    · exact ⟨by dsimp only; omega, by dsimp only; omega, .inl rfl⟩
  · split
    · exact ⟨by simp, by simp, .inr rfl⟩
    · exact ⟨by dsimp only; omega, by dsimp only; omega, .inr rfl⟩
/-- What a round of the division reckons stays small. -/
structure PartBd (need all sgn b u : Int) : Prop where
  p1 : 0 ≤ need * (b + u) ∧ need * (b + u) ≤ 10000000000
  p2 : 0 ≤ need * b ∧ need * b ≤ 10000000000
  q1 : 0 ≤ (need * (b + u)).tdiv all ∧ (need * (b + u)).tdiv all ≤ 10000000000
  q2 : 0 ≤ (need * b).tdiv all ∧ (need * b).tdiv all ≤ 10000000000
  s : -10000000000 ≤ sgn * ((need * (b + u)).tdiv all - (need * b).tdiv all) ∧ sgn * ((need * (b + u)).tdiv all - (need * b).tdiv all) ≤ 10000000000
theorem tdiv_bd {a b : Int} (h : 0 ≤ a) (hb : 1 ≤ b) : 0 ≤ a.tdiv b ∧ a.tdiv b ≤ a := by
  rw [Int.tdiv_eq_ediv_of_nonneg h]
  exact ⟨Int.ediv_nonneg h (by omega), Int.ediv_le_self _ h⟩
theorem part_bd {need all sgn b u : Int} (hn : 0 ≤ need ∧ need ≤ 100000) (ha : 1 ≤ all ∧ all ≤ 100000) (hs : sgn = 1 ∨ sgn = -1) (hb : 0 ≤ b ∧ b ≤ 90000) (hu : 0 ≤ u ∧ u ≤ 1000) : PartBd need all sgn b u := by
  have p1 := mul_bd (a := need) (b := b + u) (A := 100000) (B := 100000) hn ⟨by omega, by omega⟩
  have p2 := mul_bd (a := need) (b := b) (A := 100000) (B := 100000) hn ⟨by omega, by omega⟩
  have q1 := tdiv_bd p1.1 ha.1
  have q2 := tdiv_bd p2.1 ha.1
  refine ⟨by omega, by omega, by omega, by omega, ?_⟩
  rcases hs with rfl | rfl
  · rw [Int.one_mul]; omega
  · rw [Int.neg_one_mul]; omega

set_option maxHeartbeats 800000 in
theorem c_setOf (b8 b6 : Nat) (neg : Bool) (od : Int) (g : Gl) (w : World) (h8 : w.cell? ⟨b8, 0, none⟩ = some (.bool (!neg))) (h6 : w.cell? ⟨b6, 3, none⟩ = some (.int .i64 od)) (l8 : b8 < w.heap.size) (l6 : b6 < w.heap.size) :
    Calls Try.prog 83 #[.agg #[.int .i64 g.w, .int .i64 g.st, .int .i64 g.sh, .int .i64 g.od], .pointer (some ⟨b8, 0, none⟩), .pointer (some ⟨b6, 0, none⟩)] w fun e w' => e = .returned (.int .i64 (useOf neg od g)) ∧ Below w.heap.size w w' := by
  obtain ⟨gw, gst, gsh, god⟩ := g
  dsimp only
  by_cases ho : god = od <;> cases neg
  all_goals
    go_enter Try.func83, Try.ntmps83
    go_wp2
    go_ret
    exact ⟨by simp [useOf, ho], bof _ _⟩
theorem setGo_step {need all sgn b : Int} {u : Gl → Int} {gs : List Gl} {k : Nat} {g : Gl} {acc X : List Int} (h : gs[k]? = some g) (hX : X = acc ++ setGo need all sgn u b (gs.drop k)) :
    X = (acc ++ [g.w + sgn * ((need * (b + u g)).tdiv all - (need * b).tdiv all)]) ++ setGo need all sgn u (b + u g) (gs.drop (k + 1)) := by
  rw [hX, drop_get h, setGo]; simp
set_option maxRecDepth 100000 in
set_option maxHeartbeats 6400000 in
theorem c_set (A : Option Addr) (n c : Nat) (gs : List Gl) (width : Int) (w : World) (hR : GlsAt w A n c gs) (hok : gs.all Gl.ok = true) (hn : n ≤ 60) (hw : 0 ≤ width ∧ width ≤ 100000) :
    Calls Try.prog 57 #[.slice A n c, .int .i64 width] w fun e w' => ∃ A' c' ok, e = .returned (.tuple #[.slice A' (setWs gs width).length c', .bool ok]) ∧ OwnI w' w.heap.size A' c' (setWs gs width) ∧ Below w.heap.size w w' := by
  obtain ⟨ii, hi, hz0, hz1, hz2⟩ := info_parts infoInt
  have hlen := hR.len
  have hbd := hR.bd
  have HOK := hide hok
  have HLEN := hide hlen
  have t1 := gW_bd hok
  have t2 := gSt_bd (o := gOd gs) hok
  have t3 := gSh_bd hok
  have t4 := gSh_le hok
  rw [hlen] at t1 t2 t3
  obtain ⟨T, HT⟩ : ∃ T, Hid (gTot gs = T) := ⟨_, rfl⟩
  have hTw : T.w = gW gs := by rw [← unhide HT]; rfl
  have hTs : T.st = gSt (gOd gs) gs := by rw [← unhide HT]; rfl
  have hTh : T.sh = gSh gs := by rw [← unhide HT]; rfl
  rw [← hTw] at t1 t4
  rw [← hTs] at t2
  rw [← hTh] at t3 t4
  obtain ⟨hw0, hw1⟩ := hw
  have hpb := setPar_bd (T := T) (width := width) ⟨hw0, hw1⟩ ⟨by omega, by omega⟩ ⟨by omega, by omega⟩ ⟨by omega, by omega⟩
  obtain ⟨Tw, Tst, Tsh, Tod⟩ := T
  dsimp only at t1 t2 t3 t4
  obtain ⟨X, HXX⟩ : ∃ X, Hid (setWs gs width = X) := ⟨_, rfl⟩
  have HX : Hid (∀ need all sgn neg, setPar ⟨Tw, Tst, Tsh, Tod⟩ width = ⟨need, all, sgn, neg⟩ → X = setGo need all sgn (useOf neg Tod) 0 gs) := by
    show ∀ need all sgn neg, _ → _
    intro need all sgn neg h
    rw [← unhide HXX, setWs, unhide HT, h]
  have hXl : X.length = gs.length := by rw [← unhide HXX]; exact setWs_len gs width
  have HXL := hide hXl
  clear hok hlen hTw hTs hTh hXl hpb
  go_enter Try.func57, Try.ntmps57
  go_wp2_with fail
  refine (c_glTotal A n c gs _ hR (unhide HOK) (by omega)).mono ?_
  rw [unhide HT]
  rintro e w1 ⟨rfl, hb1⟩
  have hs1 := hb1.size
  by_cases hst : Tw ≤ width
  · have hd : decide (Tw ≤ width) = true := by simpa using hst
    by_cases hz : Tst = 0
    · subst hz
      by_cases hww : width - Tw = 0
      · have hw2 : (width - Tw == 0) = true := by simpa using hww
        have q6 := (Blk.new w1 29 #[.int .i64 Tw, .int .i64 (0), .int .i64 (Tsh), .int .i64 Tod]).alloc (.cells #[.bool true] 4)
        have q8 := Blk.new (w1.alloc (.cells #[.int .i64 Tw, .int .i64 (0), .int .i64 (Tsh), .int .i64 Tod] 29)) 4 #[.bool true]
        have hb2 := bmk (bmk hb1 (.cells #[.int .i64 Tw, .int .i64 (0), .int .i64 (Tsh), .int .i64 Tod] 29)) (.cells #[.bool true] 4)
        simp only [size_alloc'] at q8
        have HX2 : Hid (X = setGo (0) (1) (1) (useOf false Tod) 0 gs) := unhide HX _ _ _ _ (by simp [setPar, hst])
        clear HX
        go_wp2
        go_loopw [13, 14, 48] (fun o bv i wr => ∃ (k : Nat) (A' : Option Addr) (c' : Nat) (acc : List Int) (b : Int), k ≤ n ∧ i = .int .i64 k ∧ bv = .int .i64 b ∧ 0 ≤ b ∧ b ≤ 1000 * (k : Int) ∧ o = .slice A' acc.length c' ∧ acc.length = k ∧ Hid (X = acc ++ setGo (0) (1) (1) (useOf false Tod) b (gs.drop k)) ∧ OwnI wr (w1.heap.size + 1 + 1) A' c' acc ∧ Blk wr w1.heap.size 29 #[.int .i64 Tw, .int .i64 (0), .int .i64 (Tsh), .int .i64 Tod] ∧ Blk wr (w1.heap.size + 1) 4 #[.bool true] ∧ Below w.heap.size w wr) (fun _ _ i _ => n - (intOf i).toNat)
        case atStart => exact ⟨0, none, 0, [], 0, Nat.zero_le _, rfl, rfl, by omega, by omega, rfl, rfl, by show _ = _; rw [unhide HX2]; simp, OwnI.nil_ _ _, q6, q8, by first | exact hb2 | exact bdrewN hb2 _⟩
        case round =>
          clear q6 q8 hb2 HX2
          obtain ⟨k, A', c', acc, b, hk, rfl, rfl, hb0, hbk, rfl, hal, hgo, hown, q6, q8, hb⟩ := hrel
          have HAL := hide hal
          have hal2 : acc.length ≤ 60 := by omega
          clear hal
          have hbs := hb.size
          have hws : w1.heap.size + 1 + 1 ≤ wr.heap.size := q8.lt
          by_cases hlt : k < n
          · obtain ⟨bg, off, g, rfl, hbl, hg, h0, h1, h2, h3⟩ := (hR.next hb).at_ hlt
            have hgk := List.all_eq_true.1 (unhide HOK) g (mem_of_get hg)
            have hub := useOf_bd (neg := false) (od := Tod) hgk
            have hgo2 := hide (setGo_step hg (unhide hgo))
            have gk := Gl.ok_iff.1 hgk
            have r6 := q6.alloc (.cells #[.int .i64 g.w, .int .i64 g.st, .int .i64 g.sh, .int .i64 g.od] 29)
            have r8 := q8.alloc (.cells #[.int .i64 g.w, .int .i64 g.st, .int .i64 g.sh, .int .i64 g.od] 29)
            have own2 : OwnI _ (w1.heap.size + 1 + 1) A' c' acc := World.ownsRow.alloc hown (.cells #[.int .i64 g.w, .int .i64 g.st, .int .i64 g.sh, .int .i64 g.od] 29)
            have hb3 := bmk hb (.cells #[.int .i64 g.w, .int .i64 g.st, .int .i64 g.sh, .int .i64 g.od] 29)
            have qg := Blk.new wr 29 #[.int .i64 g.w, .int .i64 g.st, .int .i64 g.sh, .int .i64 g.od]
            obtain ⟨u, HU⟩ : ∃ u, Hid (useOf false Tod g = u) := ⟨_, rfl⟩
            rw [unhide HU] at hub hgo2
            have hpt := part_bd (need := 0) (all := 1) (sgn := 1) (b := b) (u := u) ⟨by omega, by omega⟩ ⟨by omega, by omega⟩ (by simp) ⟨hb0, by omega⟩ hub
            obtain ⟨P1, P2, Q1, Q2, SS⟩ := hpt
            obtain ⟨G1, G2, G3, G4⟩ := gk
            clear hgo hg hgk hown q6 q8 hb
            go_wp2_with fail
            refine (c_setOf (w1.heap.size + 1) w1.heap.size false Tod g _ (r8.cell 0) (r6.cell 3) r8.lt r6.lt).mono ?_
            rw [unhide HU]
            rintro e w3 ⟨rfl, hbc⟩
            replace r6 := r6.next hbc
            replace r8 := r8.next hbc
            replace qg := qg.next hbc
            replace own2 := OwnI.next own2 hbc
            replace hb3 := bnext hb3 hbc
            have hw3 := hb3.size
            have hw31 := r8.lt
            clear hbc
            have g0 : w3.cell? ⟨wr.heap.size, 0, none⟩ = some (.int .i64 g.w) := qg.cell 0
            clear qg
            go_wp2
            go_region_law
              ((refine step_append_lies _ (by rfl) _ _ _ (by rfl) (w1.heap.size + 1 + 1) 3 ii _ 1 8 Try.underlying34 hi hz0 hz1 hz2 rfl (by omega) (.slice A' acc.length c') acc.length (acc.map (Value.int .i64)) (by rfl) (World.ownsRow.alloc (show World.ownsRow w3.drew _ _ _ _ _ _ from own2) _) ⟨w3.heap.size, 0, none⟩ 1 1 [.int .i64 _] (by rfl) (by rfl) (one_new _ _ _) (one_one _) (by omega) (by unfold maxLen; omega) (by omega) (by simp; omega) _ rfl ?_; intro gg cap w8 F8 hg8 hat hlt8))
            all_goals
              have F9 : OwnI w8 (w1.heap.size + 1 + 1) (some ⟨gg, 0, none⟩) cap (acc ++ [g.w + (1) * (((0) * (b + u)).tdiv (1) - ((0) * b).tdiv (1))]) := by
                unfold OwnI
                rw [List.map_append, List.length_append]
                simp (disch := omega) only [wr64] at F8
                simpa using F8
              have hb8 := b_own (B := w1.heap.size + 1 + 1) (bmk hb3 _).drew (World.ownsRow.alloc own2 _) (by omega) hg8
              have s6 := (r6.alloc _).drew.grown hg8 (fun e => by have := (World.ownsRow.lt own2 _ e.symm).1; omega)
              have s8 := (r8.alloc _).drew.grown hg8 (fun e => by have := (World.ownsRow.lt own2 _ e.symm).1; omega)
              clear F8 hg8 hat own2 r6 r8 hb3 P1 P2 Q1 Q2 SS
              go_wp2
              go_roundw
              case rel => exact ⟨k + 1, some ⟨gg, 0, none⟩, cap, _, b + u, by omega, by go_num, rfl, by omega, by omega, by simp, by simp; exact unhide HAL, hgo2, F9, s6, s8, hb8⟩
              case measure => simp [intOf] <;> omega
          · obtain rfl : n = k := by omega
            have H : Hid (X = acc) := by
              have h := unhide hgo
              rw [drop_end (by rw [unhide HLEN]; exact Nat.le_refl _), setGo] at h
              show _ = _; rw [h]; simp
            clear hgo
            go_wp2
            go_ret2
            rw [unhide HXX, unhide H]
            exact ⟨_, _, _, rfl, own_base hown (by omega), hb⟩
      · have hw2 : (width - Tw == 0) = false := by simpa using hww
        have q6 := (Blk.new w1 29 #[.int .i64 Tw, .int .i64 (0), .int .i64 (Tsh), .int .i64 Tod]).alloc (.cells #[.bool true] 4)
        have q8 := Blk.new (w1.alloc (.cells #[.int .i64 Tw, .int .i64 (0), .int .i64 (Tsh), .int .i64 Tod] 29)) 4 #[.bool true]
        have hb2 := bmk (bmk hb1 (.cells #[.int .i64 Tw, .int .i64 (0), .int .i64 (Tsh), .int .i64 Tod] 29)) (.cells #[.bool true] 4)
        simp only [size_alloc'] at q8
        have HX2 : Hid (X = setGo (0) (1) (1) (useOf false Tod) 0 gs) := unhide HX _ _ _ _ (by simp [setPar, hst])
        clear HX
        go_wp2
        go_loopw [13, 14, 48] (fun o bv i wr => ∃ (k : Nat) (A' : Option Addr) (c' : Nat) (acc : List Int) (b : Int), k ≤ n ∧ i = .int .i64 k ∧ bv = .int .i64 b ∧ 0 ≤ b ∧ b ≤ 1000 * (k : Int) ∧ o = .slice A' acc.length c' ∧ acc.length = k ∧ Hid (X = acc ++ setGo (0) (1) (1) (useOf false Tod) b (gs.drop k)) ∧ OwnI wr (w1.heap.size + 1 + 1) A' c' acc ∧ Blk wr w1.heap.size 29 #[.int .i64 Tw, .int .i64 (0), .int .i64 (Tsh), .int .i64 Tod] ∧ Blk wr (w1.heap.size + 1) 4 #[.bool true] ∧ Below w.heap.size w wr) (fun _ _ i _ => n - (intOf i).toNat)
        case atStart => exact ⟨0, none, 0, [], 0, Nat.zero_le _, rfl, rfl, by omega, by omega, rfl, rfl, by show _ = _; rw [unhide HX2]; simp, OwnI.nil_ _ _, q6, q8, by first | exact hb2 | exact bdrewN hb2 _⟩
        case round =>
          clear q6 q8 hb2 HX2
          obtain ⟨k, A', c', acc, b, hk, rfl, rfl, hb0, hbk, rfl, hal, hgo, hown, q6, q8, hb⟩ := hrel
          have HAL := hide hal
          have hal2 : acc.length ≤ 60 := by omega
          clear hal
          have hbs := hb.size
          have hws : w1.heap.size + 1 + 1 ≤ wr.heap.size := q8.lt
          by_cases hlt : k < n
          · obtain ⟨bg, off, g, rfl, hbl, hg, h0, h1, h2, h3⟩ := (hR.next hb).at_ hlt
            have hgk := List.all_eq_true.1 (unhide HOK) g (mem_of_get hg)
            have hub := useOf_bd (neg := false) (od := Tod) hgk
            have hgo2 := hide (setGo_step hg (unhide hgo))
            have gk := Gl.ok_iff.1 hgk
            have r6 := q6.alloc (.cells #[.int .i64 g.w, .int .i64 g.st, .int .i64 g.sh, .int .i64 g.od] 29)
            have r8 := q8.alloc (.cells #[.int .i64 g.w, .int .i64 g.st, .int .i64 g.sh, .int .i64 g.od] 29)
            have own2 : OwnI _ (w1.heap.size + 1 + 1) A' c' acc := World.ownsRow.alloc hown (.cells #[.int .i64 g.w, .int .i64 g.st, .int .i64 g.sh, .int .i64 g.od] 29)
            have hb3 := bmk hb (.cells #[.int .i64 g.w, .int .i64 g.st, .int .i64 g.sh, .int .i64 g.od] 29)
            have qg := Blk.new wr 29 #[.int .i64 g.w, .int .i64 g.st, .int .i64 g.sh, .int .i64 g.od]
            obtain ⟨u, HU⟩ : ∃ u, Hid (useOf false Tod g = u) := ⟨_, rfl⟩
            rw [unhide HU] at hub hgo2
            have hpt := part_bd (need := 0) (all := 1) (sgn := 1) (b := b) (u := u) ⟨by omega, by omega⟩ ⟨by omega, by omega⟩ (by simp) ⟨hb0, by omega⟩ hub
            obtain ⟨P1, P2, Q1, Q2, SS⟩ := hpt
            obtain ⟨G1, G2, G3, G4⟩ := gk
            clear hgo hg hgk hown q6 q8 hb
            go_wp2_with fail
            refine (c_setOf (w1.heap.size + 1) w1.heap.size false Tod g _ (r8.cell 0) (r6.cell 3) r8.lt r6.lt).mono ?_
            rw [unhide HU]
            rintro e w3 ⟨rfl, hbc⟩
            replace r6 := r6.next hbc
            replace r8 := r8.next hbc
            replace qg := qg.next hbc
            replace own2 := OwnI.next own2 hbc
            replace hb3 := bnext hb3 hbc
            have hw3 := hb3.size
            have hw31 := r8.lt
            clear hbc
            have g0 : w3.cell? ⟨wr.heap.size, 0, none⟩ = some (.int .i64 g.w) := qg.cell 0
            clear qg
            go_wp2
            go_region_law
              ((refine step_append_lies _ (by rfl) _ _ _ (by rfl) (w1.heap.size + 1 + 1) 3 ii _ 1 8 Try.underlying34 hi hz0 hz1 hz2 rfl (by omega) (.slice A' acc.length c') acc.length (acc.map (Value.int .i64)) (by rfl) (World.ownsRow.alloc (show World.ownsRow w3.drew _ _ _ _ _ _ from own2) _) ⟨w3.heap.size, 0, none⟩ 1 1 [.int .i64 _] (by rfl) (by rfl) (one_new _ _ _) (one_one _) (by omega) (by unfold maxLen; omega) (by omega) (by simp; omega) _ rfl ?_; intro gg cap w8 F8 hg8 hat hlt8))
            all_goals
              have F9 : OwnI w8 (w1.heap.size + 1 + 1) (some ⟨gg, 0, none⟩) cap (acc ++ [g.w + (1) * (((0) * (b + u)).tdiv (1) - ((0) * b).tdiv (1))]) := by
                unfold OwnI
                rw [List.map_append, List.length_append]
                simp (disch := omega) only [wr64] at F8
                simpa using F8
              have hb8 := b_own (B := w1.heap.size + 1 + 1) (bmk hb3 _).drew (World.ownsRow.alloc own2 _) (by omega) hg8
              have s6 := (r6.alloc _).drew.grown hg8 (fun e => by have := (World.ownsRow.lt own2 _ e.symm).1; omega)
              have s8 := (r8.alloc _).drew.grown hg8 (fun e => by have := (World.ownsRow.lt own2 _ e.symm).1; omega)
              clear F8 hg8 hat own2 r6 r8 hb3 P1 P2 Q1 Q2 SS
              go_wp2
              go_roundw
              case rel => exact ⟨k + 1, some ⟨gg, 0, none⟩, cap, _, b + u, by omega, by go_num, rfl, by omega, by omega, by simp, by simp; exact unhide HAL, hgo2, F9, s6, s8, hb8⟩
              case measure => simp [intOf] <;> omega
          · obtain rfl : n = k := by omega
            have H : Hid (X = acc) := by
              have h := unhide hgo
              rw [drop_end (by rw [unhide HLEN]; exact Nat.le_refl _), setGo] at h
              show _ = _; rw [h]; simp
            clear hgo
            go_wp2
            go_ret2
            rw [unhide HXX, unhide H]
            exact ⟨_, _, _, rfl, own_base hown (by omega), hb⟩
    · have hz' : (Tst == 0) = false := by simpa using hz
      have q6 := (Blk.new w1 29 #[.int .i64 Tw, .int .i64 (Tst), .int .i64 (Tsh), .int .i64 Tod]).alloc (.cells #[.bool true] 4)
      have q8 := Blk.new (w1.alloc (.cells #[.int .i64 Tw, .int .i64 (Tst), .int .i64 (Tsh), .int .i64 Tod] 29)) 4 #[.bool true]
      have hb2 := bmk (bmk hb1 (.cells #[.int .i64 Tw, .int .i64 (Tst), .int .i64 (Tsh), .int .i64 Tod] 29)) (.cells #[.bool true] 4)
      simp only [size_alloc'] at q8
      have HX2 : Hid (X = setGo (width - Tw) (Tst) (1) (useOf false Tod) 0 gs) := unhide HX _ _ _ _ (by simp [setPar, hst, hz])
      clear HX
      go_wp2
      go_loopw [13, 14, 48] (fun o bv i wr => ∃ (k : Nat) (A' : Option Addr) (c' : Nat) (acc : List Int) (b : Int), k ≤ n ∧ i = .int .i64 k ∧ bv = .int .i64 b ∧ 0 ≤ b ∧ b ≤ 1000 * (k : Int) ∧ o = .slice A' acc.length c' ∧ acc.length = k ∧ Hid (X = acc ++ setGo (width - Tw) (Tst) (1) (useOf false Tod) b (gs.drop k)) ∧ OwnI wr (w1.heap.size + 1 + 1) A' c' acc ∧ Blk wr w1.heap.size 29 #[.int .i64 Tw, .int .i64 (Tst), .int .i64 (Tsh), .int .i64 Tod] ∧ Blk wr (w1.heap.size + 1) 4 #[.bool true] ∧ Below w.heap.size w wr) (fun _ _ i _ => n - (intOf i).toNat)
      case atStart => exact ⟨0, none, 0, [], 0, Nat.zero_le _, rfl, rfl, by omega, by omega, rfl, rfl, by show _ = _; rw [unhide HX2]; simp, OwnI.nil_ _ _, q6, q8, by first | exact hb2 | exact bdrewN hb2 _⟩
      case round =>
        clear q6 q8 hb2 HX2
        obtain ⟨k, A', c', acc, b, hk, rfl, rfl, hb0, hbk, rfl, hal, hgo, hown, q6, q8, hb⟩ := hrel
        have HAL := hide hal
        have hal2 : acc.length ≤ 60 := by omega
        clear hal
        have hbs := hb.size
        have hws : w1.heap.size + 1 + 1 ≤ wr.heap.size := q8.lt
        by_cases hlt : k < n
        · obtain ⟨bg, off, g, rfl, hbl, hg, h0, h1, h2, h3⟩ := (hR.next hb).at_ hlt
          have hgk := List.all_eq_true.1 (unhide HOK) g (mem_of_get hg)
          have hub := useOf_bd (neg := false) (od := Tod) hgk
          have hgo2 := hide (setGo_step hg (unhide hgo))
          have gk := Gl.ok_iff.1 hgk
          have r6 := q6.alloc (.cells #[.int .i64 g.w, .int .i64 g.st, .int .i64 g.sh, .int .i64 g.od] 29)
          have r8 := q8.alloc (.cells #[.int .i64 g.w, .int .i64 g.st, .int .i64 g.sh, .int .i64 g.od] 29)
          have own2 : OwnI _ (w1.heap.size + 1 + 1) A' c' acc := World.ownsRow.alloc hown (.cells #[.int .i64 g.w, .int .i64 g.st, .int .i64 g.sh, .int .i64 g.od] 29)
          have hb3 := bmk hb (.cells #[.int .i64 g.w, .int .i64 g.st, .int .i64 g.sh, .int .i64 g.od] 29)
          have qg := Blk.new wr 29 #[.int .i64 g.w, .int .i64 g.st, .int .i64 g.sh, .int .i64 g.od]
          obtain ⟨u, HU⟩ : ∃ u, Hid (useOf false Tod g = u) := ⟨_, rfl⟩
          rw [unhide HU] at hub hgo2
          have hpt := part_bd (need := width - Tw) (all := Tst) (sgn := 1) (b := b) (u := u) ⟨by omega, by omega⟩ ⟨by omega, by omega⟩ (by simp) ⟨hb0, by omega⟩ hub
          obtain ⟨P1, P2, Q1, Q2, SS⟩ := hpt
          obtain ⟨G1, G2, G3, G4⟩ := gk
          clear hgo hg hgk hown q6 q8 hb
          go_wp2_with fail
          refine (c_setOf (w1.heap.size + 1) w1.heap.size false Tod g _ (r8.cell 0) (r6.cell 3) r8.lt r6.lt).mono ?_
          rw [unhide HU]
          rintro e w3 ⟨rfl, hbc⟩
          replace r6 := r6.next hbc
          replace r8 := r8.next hbc
          replace qg := qg.next hbc
          replace own2 := OwnI.next own2 hbc
          replace hb3 := bnext hb3 hbc
          have hw3 := hb3.size
          have hw31 := r8.lt
          clear hbc
          have g0 : w3.cell? ⟨wr.heap.size, 0, none⟩ = some (.int .i64 g.w) := qg.cell 0
          clear qg
          go_wp2
          go_region_law
            ((refine step_append_lies _ (by rfl) _ _ _ (by rfl) (w1.heap.size + 1 + 1) 3 ii _ 1 8 Try.underlying34 hi hz0 hz1 hz2 rfl (by omega) (.slice A' acc.length c') acc.length (acc.map (Value.int .i64)) (by rfl) (World.ownsRow.alloc (show World.ownsRow w3.drew _ _ _ _ _ _ from own2) _) ⟨w3.heap.size, 0, none⟩ 1 1 [.int .i64 _] (by rfl) (by rfl) (one_new _ _ _) (one_one _) (by omega) (by unfold maxLen; omega) (by omega) (by simp; omega) _ rfl ?_; intro gg cap w8 F8 hg8 hat hlt8))
          all_goals
            have F9 : OwnI w8 (w1.heap.size + 1 + 1) (some ⟨gg, 0, none⟩) cap (acc ++ [g.w + (1) * (((width - Tw) * (b + u)).tdiv (Tst) - ((width - Tw) * b).tdiv (Tst))]) := by
              unfold OwnI
              rw [List.map_append, List.length_append]
              simp (disch := omega) only [wr64] at F8
              simpa using F8
            have hb8 := b_own (B := w1.heap.size + 1 + 1) (bmk hb3 _).drew (World.ownsRow.alloc own2 _) (by omega) hg8
            have s6 := (r6.alloc _).drew.grown hg8 (fun e => by have := (World.ownsRow.lt own2 _ e.symm).1; omega)
            have s8 := (r8.alloc _).drew.grown hg8 (fun e => by have := (World.ownsRow.lt own2 _ e.symm).1; omega)
            clear F8 hg8 hat own2 r6 r8 hb3 P1 P2 Q1 Q2 SS
            go_wp2
            go_roundw
            case rel => exact ⟨k + 1, some ⟨gg, 0, none⟩, cap, _, b + u, by omega, by go_num, rfl, by omega, by omega, by simp, by simp; exact unhide HAL, hgo2, F9, s6, s8, hb8⟩
            case measure => simp [intOf] <;> omega
        · obtain rfl : n = k := by omega
          have H : Hid (X = acc) := by
            have h := unhide hgo
            rw [drop_end (by rw [unhide HLEN]; exact Nat.le_refl _), setGo] at h
            show _ = _; rw [h]; simp
          clear hgo
          go_wp2
          go_ret2
          rw [unhide HXX, unhide H]
          exact ⟨_, _, _, rfl, own_base hown (by omega), hb⟩
  · have hd : decide (Tw ≤ width) = false := by simpa using hst
    have hst2 : width < Tw := by omega
    by_cases hz : Tsh = 0
    · subst hz
      have hg3 : decide (width - Tw < 0) = true := by simp; omega
      have q6 := (Blk.new w1 29 #[.int .i64 Tw, .int .i64 (Tst), .int .i64 (0), .int .i64 Tod]).alloc (.cells #[.bool false] 4)
      have q8 := Blk.new (w1.alloc (.cells #[.int .i64 Tw, .int .i64 (Tst), .int .i64 (0), .int .i64 Tod] 29)) 4 #[.bool false]
      have hb2 := bmk (bmk hb1 (.cells #[.int .i64 Tw, .int .i64 (Tst), .int .i64 (0), .int .i64 Tod] 29)) (.cells #[.bool false] 4)
      simp only [size_alloc'] at q8
      have HX2 : Hid (X = setGo (0) (1) (-1) (useOf true Tod) 0 gs) := unhide HX _ _ _ _ (by simp [setPar, hst])
      clear HX
      go_wp2
      go_quiet (fail)
      go_wp2
      go_loopw [13, 14, 48] (fun o bv i wr => ∃ (k : Nat) (A' : Option Addr) (c' : Nat) (acc : List Int) (b : Int), k ≤ n ∧ i = .int .i64 k ∧ bv = .int .i64 b ∧ 0 ≤ b ∧ b ≤ 1000 * (k : Int) ∧ o = .slice A' acc.length c' ∧ acc.length = k ∧ Hid (X = acc ++ setGo (0) (1) (-1) (useOf true Tod) b (gs.drop k)) ∧ OwnI wr (w1.heap.size + 1 + 1) A' c' acc ∧ Blk wr w1.heap.size 29 #[.int .i64 Tw, .int .i64 (Tst), .int .i64 (0), .int .i64 Tod] ∧ Blk wr (w1.heap.size + 1) 4 #[.bool false] ∧ Below w.heap.size w wr) (fun _ _ i _ => n - (intOf i).toNat)
      case atStart => exact ⟨0, none, 0, [], 0, Nat.zero_le _, rfl, rfl, by omega, by omega, rfl, rfl, by show _ = _; rw [unhide HX2]; simp, OwnI.nil_ _ _, q6, q8, by first | exact hb2 | exact bdrewN hb2 _⟩
      case round =>
        clear q6 q8 hb2 HX2
        obtain ⟨k, A', c', acc, b, hk, rfl, rfl, hb0, hbk, rfl, hal, hgo, hown, q6, q8, hb⟩ := hrel
        have HAL := hide hal
        have hal2 : acc.length ≤ 60 := by omega
        clear hal
        have hbs := hb.size
        have hws : w1.heap.size + 1 + 1 ≤ wr.heap.size := q8.lt
        by_cases hlt : k < n
        · obtain ⟨bg, off, g, rfl, hbl, hg, h0, h1, h2, h3⟩ := (hR.next hb).at_ hlt
          have hgk := List.all_eq_true.1 (unhide HOK) g (mem_of_get hg)
          have hub := useOf_bd (neg := true) (od := Tod) hgk
          have hgo2 := hide (setGo_step hg (unhide hgo))
          have gk := Gl.ok_iff.1 hgk
          have r6 := q6.alloc (.cells #[.int .i64 g.w, .int .i64 g.st, .int .i64 g.sh, .int .i64 g.od] 29)
          have r8 := q8.alloc (.cells #[.int .i64 g.w, .int .i64 g.st, .int .i64 g.sh, .int .i64 g.od] 29)
          have own2 : OwnI _ (w1.heap.size + 1 + 1) A' c' acc := World.ownsRow.alloc hown (.cells #[.int .i64 g.w, .int .i64 g.st, .int .i64 g.sh, .int .i64 g.od] 29)
          have hb3 := bmk hb (.cells #[.int .i64 g.w, .int .i64 g.st, .int .i64 g.sh, .int .i64 g.od] 29)
          have qg := Blk.new wr 29 #[.int .i64 g.w, .int .i64 g.st, .int .i64 g.sh, .int .i64 g.od]
          obtain ⟨u, HU⟩ : ∃ u, Hid (useOf true Tod g = u) := ⟨_, rfl⟩
          rw [unhide HU] at hub hgo2
          have hpt := part_bd (need := 0) (all := 1) (sgn := -1) (b := b) (u := u) ⟨by omega, by omega⟩ ⟨by omega, by omega⟩ (by simp) ⟨hb0, by omega⟩ hub
          obtain ⟨P1, P2, Q1, Q2, SS⟩ := hpt
          obtain ⟨G1, G2, G3, G4⟩ := gk
          clear hgo hg hgk hown q6 q8 hb
          go_wp2_with fail
          refine (c_setOf (w1.heap.size + 1) w1.heap.size true Tod g _ (r8.cell 0) (r6.cell 3) r8.lt r6.lt).mono ?_
          rw [unhide HU]
          rintro e w3 ⟨rfl, hbc⟩
          replace r6 := r6.next hbc
          replace r8 := r8.next hbc
          replace qg := qg.next hbc
          replace own2 := OwnI.next own2 hbc
          replace hb3 := bnext hb3 hbc
          have hw3 := hb3.size
          have hw31 := r8.lt
          clear hbc
          have g0 : w3.cell? ⟨wr.heap.size, 0, none⟩ = some (.int .i64 g.w) := qg.cell 0
          clear qg
          go_wp2
          go_region_law
            ((refine step_append_lies _ (by rfl) _ _ _ (by rfl) (w1.heap.size + 1 + 1) 3 ii _ 1 8 Try.underlying34 hi hz0 hz1 hz2 rfl (by omega) (.slice A' acc.length c') acc.length (acc.map (Value.int .i64)) (by rfl) (World.ownsRow.alloc (show World.ownsRow w3.drew _ _ _ _ _ _ from own2) _) ⟨w3.heap.size, 0, none⟩ 1 1 [.int .i64 _] (by rfl) (by rfl) (one_new _ _ _) (one_one _) (by omega) (by unfold maxLen; omega) (by omega) (by simp; omega) _ rfl ?_; intro gg cap w8 F8 hg8 hat hlt8))
          all_goals
            have F9 : OwnI w8 (w1.heap.size + 1 + 1) (some ⟨gg, 0, none⟩) cap (acc ++ [g.w + (-1) * (((0) * (b + u)).tdiv (1) - ((0) * b).tdiv (1))]) := by
              unfold OwnI
              rw [List.map_append, List.length_append]
              simp (disch := omega) only [wr64] at F8
              simpa using F8
            have hb8 := b_own (B := w1.heap.size + 1 + 1) (bmk hb3 _).drew (World.ownsRow.alloc own2 _) (by omega) hg8
            have s6 := (r6.alloc _).drew.grown hg8 (fun e => by have := (World.ownsRow.lt own2 _ e.symm).1; omega)
            have s8 := (r8.alloc _).drew.grown hg8 (fun e => by have := (World.ownsRow.lt own2 _ e.symm).1; omega)
            clear F8 hg8 hat own2 r6 r8 hb3 P1 P2 Q1 Q2 SS
            go_wp2
            go_roundw
            case rel => exact ⟨k + 1, some ⟨gg, 0, none⟩, cap, _, b + u, by omega, by go_num, rfl, by omega, by omega, by simp, by simp; exact unhide HAL, hgo2, F9, s6, s8, hb8⟩
            case measure => simp [intOf] <;> omega
        · obtain rfl : n = k := by omega
          have H : Hid (X = acc) := by
            have h := unhide hgo
            rw [drop_end (by rw [unhide HLEN]; exact Nat.le_refl _), setGo] at h
            show _ = _; rw [h]; simp
          clear hgo
          go_wp2
          go_ret2
          rw [unhide HXX, unhide H]
          exact ⟨_, _, _, rfl, own_base hown (by omega), hb⟩
    · have hz' : (Tsh == 0) = false := by simpa using hz
      by_cases hgt : Tsh < Tw - width
      · have hmin : min (Tw - width) Tsh = Tsh := by omega
        have hg1 : decide (Tsh < Tw - width) = true := by simpa using hgt
        have hg2 : decide (Tsh < -(width - Tw)) = true := by simp; omega
        have HM := hide hmin
        clear hmin
        have q6 := (Blk.new w1 29 #[.int .i64 Tw, .int .i64 (Tst), .int .i64 (Tsh), .int .i64 Tod]).alloc (.cells #[.bool false] 4)
        have q8 := Blk.new (w1.alloc (.cells #[.int .i64 Tw, .int .i64 (Tst), .int .i64 (Tsh), .int .i64 Tod] 29)) 4 #[.bool false]
        have hb2 := bmk (bmk hb1 (.cells #[.int .i64 Tw, .int .i64 (Tst), .int .i64 (Tsh), .int .i64 Tod] 29)) (.cells #[.bool false] 4)
        simp only [size_alloc'] at q8
        have HX2 : Hid (X = setGo (Tsh) (Tsh) (-1) (useOf true Tod) 0 gs) := unhide HX _ _ _ _ (by simp [setPar, hst, hz, unhide HM])
        clear HX
        go_wp2
        go_quiet (fail)
        go_wp2
        go_loopw [13, 14, 48] (fun o bv i wr => ∃ (k : Nat) (A' : Option Addr) (c' : Nat) (acc : List Int) (b : Int), k ≤ n ∧ i = .int .i64 k ∧ bv = .int .i64 b ∧ 0 ≤ b ∧ b ≤ 1000 * (k : Int) ∧ o = .slice A' acc.length c' ∧ acc.length = k ∧ Hid (X = acc ++ setGo (Tsh) (Tsh) (-1) (useOf true Tod) b (gs.drop k)) ∧ OwnI wr (w1.heap.size + 1 + 1) A' c' acc ∧ Blk wr w1.heap.size 29 #[.int .i64 Tw, .int .i64 (Tst), .int .i64 (Tsh), .int .i64 Tod] ∧ Blk wr (w1.heap.size + 1) 4 #[.bool false] ∧ Below w.heap.size w wr) (fun _ _ i _ => n - (intOf i).toNat)
        case atStart => exact ⟨0, none, 0, [], 0, Nat.zero_le _, rfl, rfl, by omega, by omega, rfl, rfl, by show _ = _; rw [unhide HX2]; simp, OwnI.nil_ _ _, q6, q8, by first | exact hb2 | exact bdrewN hb2 _⟩
        case round =>
          clear q6 q8 hb2 HX2
          obtain ⟨k, A', c', acc, b, hk, rfl, rfl, hb0, hbk, rfl, hal, hgo, hown, q6, q8, hb⟩ := hrel
          have HAL := hide hal
          have hal2 : acc.length ≤ 60 := by omega
          clear hal
          have hbs := hb.size
          have hws : w1.heap.size + 1 + 1 ≤ wr.heap.size := q8.lt
          by_cases hlt : k < n
          · obtain ⟨bg, off, g, rfl, hbl, hg, h0, h1, h2, h3⟩ := (hR.next hb).at_ hlt
            have hgk := List.all_eq_true.1 (unhide HOK) g (mem_of_get hg)
            have hub := useOf_bd (neg := true) (od := Tod) hgk
            have hgo2 := hide (setGo_step hg (unhide hgo))
            have gk := Gl.ok_iff.1 hgk
            have r6 := q6.alloc (.cells #[.int .i64 g.w, .int .i64 g.st, .int .i64 g.sh, .int .i64 g.od] 29)
            have r8 := q8.alloc (.cells #[.int .i64 g.w, .int .i64 g.st, .int .i64 g.sh, .int .i64 g.od] 29)
            have own2 : OwnI _ (w1.heap.size + 1 + 1) A' c' acc := World.ownsRow.alloc hown (.cells #[.int .i64 g.w, .int .i64 g.st, .int .i64 g.sh, .int .i64 g.od] 29)
            have hb3 := bmk hb (.cells #[.int .i64 g.w, .int .i64 g.st, .int .i64 g.sh, .int .i64 g.od] 29)
            have qg := Blk.new wr 29 #[.int .i64 g.w, .int .i64 g.st, .int .i64 g.sh, .int .i64 g.od]
            obtain ⟨u, HU⟩ : ∃ u, Hid (useOf true Tod g = u) := ⟨_, rfl⟩
            rw [unhide HU] at hub hgo2
            have hpt := part_bd (need := Tsh) (all := Tsh) (sgn := -1) (b := b) (u := u) ⟨by omega, by omega⟩ ⟨by omega, by omega⟩ (by simp) ⟨hb0, by omega⟩ hub
            obtain ⟨P1, P2, Q1, Q2, SS⟩ := hpt
            obtain ⟨G1, G2, G3, G4⟩ := gk
            clear hgo hg hgk hown q6 q8 hb
            go_wp2_with fail
            refine (c_setOf (w1.heap.size + 1) w1.heap.size true Tod g _ (r8.cell 0) (r6.cell 3) r8.lt r6.lt).mono ?_
            rw [unhide HU]
            rintro e w3 ⟨rfl, hbc⟩
            replace r6 := r6.next hbc
            replace r8 := r8.next hbc
            replace qg := qg.next hbc
            replace own2 := OwnI.next own2 hbc
            replace hb3 := bnext hb3 hbc
            have hw3 := hb3.size
            have hw31 := r8.lt
            clear hbc
            have g0 : w3.cell? ⟨wr.heap.size, 0, none⟩ = some (.int .i64 g.w) := qg.cell 0
            clear qg
            go_wp2
            go_region_law
              ((refine step_append_lies _ (by rfl) _ _ _ (by rfl) (w1.heap.size + 1 + 1) 3 ii _ 1 8 Try.underlying34 hi hz0 hz1 hz2 rfl (by omega) (.slice A' acc.length c') acc.length (acc.map (Value.int .i64)) (by rfl) (World.ownsRow.alloc (show World.ownsRow w3.drew _ _ _ _ _ _ from own2) _) ⟨w3.heap.size, 0, none⟩ 1 1 [.int .i64 _] (by rfl) (by rfl) (one_new _ _ _) (one_one _) (by omega) (by unfold maxLen; omega) (by omega) (by simp; omega) _ rfl ?_; intro gg cap w8 F8 hg8 hat hlt8))
            all_goals
              have F9 : OwnI w8 (w1.heap.size + 1 + 1) (some ⟨gg, 0, none⟩) cap (acc ++ [g.w + (-1) * (((Tsh) * (b + u)).tdiv (Tsh) - ((Tsh) * b).tdiv (Tsh))]) := by
                unfold OwnI
                rw [List.map_append, List.length_append]
                simp (disch := omega) only [wr64] at F8
                simpa using F8
              have hb8 := b_own (B := w1.heap.size + 1 + 1) (bmk hb3 _).drew (World.ownsRow.alloc own2 _) (by omega) hg8
              have s6 := (r6.alloc _).drew.grown hg8 (fun e => by have := (World.ownsRow.lt own2 _ e.symm).1; omega)
              have s8 := (r8.alloc _).drew.grown hg8 (fun e => by have := (World.ownsRow.lt own2 _ e.symm).1; omega)
              clear F8 hg8 hat own2 r6 r8 hb3 P1 P2 Q1 Q2 SS
              go_wp2
              go_roundw
              case rel => exact ⟨k + 1, some ⟨gg, 0, none⟩, cap, _, b + u, by omega, by go_num, rfl, by omega, by omega, by simp, by simp; exact unhide HAL, hgo2, F9, s6, s8, hb8⟩
              case measure => simp [intOf] <;> omega
          · obtain rfl : n = k := by omega
            have H : Hid (X = acc) := by
              have h := unhide hgo
              rw [drop_end (by rw [unhide HLEN]; exact Nat.le_refl _), setGo] at h
              show _ = _; rw [h]; simp
            clear hgo
            go_wp2
            go_ret2
            rw [unhide HXX, unhide H]
            exact ⟨_, _, _, rfl, own_base hown (by omega), hb⟩
      · have hmin : min (Tw - width) Tsh = Tw - width := by omega
        have hg1 : decide (Tsh < Tw - width) = false := by simpa using hgt
        have hg2 : decide (Tsh < -(width - Tw)) = false := by simp; omega
        have HM := hide hmin
        clear hmin
        have q6 := (Blk.new w1 29 #[.int .i64 Tw, .int .i64 (Tst), .int .i64 (Tsh), .int .i64 Tod]).alloc (.cells #[.bool false] 4)
        have q8 := Blk.new (w1.alloc (.cells #[.int .i64 Tw, .int .i64 (Tst), .int .i64 (Tsh), .int .i64 Tod] 29)) 4 #[.bool false]
        have hb2 := bmk (bmk hb1 (.cells #[.int .i64 Tw, .int .i64 (Tst), .int .i64 (Tsh), .int .i64 Tod] 29)) (.cells #[.bool false] 4)
        simp only [size_alloc'] at q8
        have HX2 : Hid (X = setGo (-(width - Tw)) (Tsh) (-1) (useOf true Tod) 0 gs) := unhide HX _ _ _ _ (by simp [setPar, hst, hz, unhide HM]; omega)
        clear HX
        go_wp2
        go_quiet (fail)
        go_wp2
        go_loopw [13, 14, 48] (fun o bv i wr => ∃ (k : Nat) (A' : Option Addr) (c' : Nat) (acc : List Int) (b : Int), k ≤ n ∧ i = .int .i64 k ∧ bv = .int .i64 b ∧ 0 ≤ b ∧ b ≤ 1000 * (k : Int) ∧ o = .slice A' acc.length c' ∧ acc.length = k ∧ Hid (X = acc ++ setGo (-(width - Tw)) (Tsh) (-1) (useOf true Tod) b (gs.drop k)) ∧ OwnI wr (w1.heap.size + 1 + 1) A' c' acc ∧ Blk wr w1.heap.size 29 #[.int .i64 Tw, .int .i64 (Tst), .int .i64 (Tsh), .int .i64 Tod] ∧ Blk wr (w1.heap.size + 1) 4 #[.bool false] ∧ Below w.heap.size w wr) (fun _ _ i _ => n - (intOf i).toNat)
        case atStart => exact ⟨0, none, 0, [], 0, Nat.zero_le _, rfl, rfl, by omega, by omega, rfl, rfl, by show _ = _; rw [unhide HX2]; simp, OwnI.nil_ _ _, q6, q8, by first | exact hb2 | exact bdrewN hb2 _⟩
        case round =>
          clear q6 q8 hb2 HX2
          obtain ⟨k, A', c', acc, b, hk, rfl, rfl, hb0, hbk, rfl, hal, hgo, hown, q6, q8, hb⟩ := hrel
          have HAL := hide hal
          have hal2 : acc.length ≤ 60 := by omega
          clear hal
          have hbs := hb.size
          have hws : w1.heap.size + 1 + 1 ≤ wr.heap.size := q8.lt
          by_cases hlt : k < n
          · obtain ⟨bg, off, g, rfl, hbl, hg, h0, h1, h2, h3⟩ := (hR.next hb).at_ hlt
            have hgk := List.all_eq_true.1 (unhide HOK) g (mem_of_get hg)
            have hub := useOf_bd (neg := true) (od := Tod) hgk
            have hgo2 := hide (setGo_step hg (unhide hgo))
            have gk := Gl.ok_iff.1 hgk
            have r6 := q6.alloc (.cells #[.int .i64 g.w, .int .i64 g.st, .int .i64 g.sh, .int .i64 g.od] 29)
            have r8 := q8.alloc (.cells #[.int .i64 g.w, .int .i64 g.st, .int .i64 g.sh, .int .i64 g.od] 29)
            have own2 : OwnI _ (w1.heap.size + 1 + 1) A' c' acc := World.ownsRow.alloc hown (.cells #[.int .i64 g.w, .int .i64 g.st, .int .i64 g.sh, .int .i64 g.od] 29)
            have hb3 := bmk hb (.cells #[.int .i64 g.w, .int .i64 g.st, .int .i64 g.sh, .int .i64 g.od] 29)
            have qg := Blk.new wr 29 #[.int .i64 g.w, .int .i64 g.st, .int .i64 g.sh, .int .i64 g.od]
            obtain ⟨u, HU⟩ : ∃ u, Hid (useOf true Tod g = u) := ⟨_, rfl⟩
            rw [unhide HU] at hub hgo2
            have hpt := part_bd (need := -(width - Tw)) (all := Tsh) (sgn := -1) (b := b) (u := u) ⟨by omega, by omega⟩ ⟨by omega, by omega⟩ (by simp) ⟨hb0, by omega⟩ hub
            obtain ⟨P1, P2, Q1, Q2, SS⟩ := hpt
            obtain ⟨G1, G2, G3, G4⟩ := gk
            clear hgo hg hgk hown q6 q8 hb
            go_wp2_with fail
            refine (c_setOf (w1.heap.size + 1) w1.heap.size true Tod g _ (r8.cell 0) (r6.cell 3) r8.lt r6.lt).mono ?_
            rw [unhide HU]
            rintro e w3 ⟨rfl, hbc⟩
            replace r6 := r6.next hbc
            replace r8 := r8.next hbc
            replace qg := qg.next hbc
            replace own2 := OwnI.next own2 hbc
            replace hb3 := bnext hb3 hbc
            have hw3 := hb3.size
            have hw31 := r8.lt
            clear hbc
            have g0 : w3.cell? ⟨wr.heap.size, 0, none⟩ = some (.int .i64 g.w) := qg.cell 0
            clear qg
            go_wp2
            go_region_law
              ((refine step_append_lies _ (by rfl) _ _ _ (by rfl) (w1.heap.size + 1 + 1) 3 ii _ 1 8 Try.underlying34 hi hz0 hz1 hz2 rfl (by omega) (.slice A' acc.length c') acc.length (acc.map (Value.int .i64)) (by rfl) (World.ownsRow.alloc (show World.ownsRow w3.drew _ _ _ _ _ _ from own2) _) ⟨w3.heap.size, 0, none⟩ 1 1 [.int .i64 _] (by rfl) (by rfl) (one_new _ _ _) (one_one _) (by omega) (by unfold maxLen; omega) (by omega) (by simp; omega) _ rfl ?_; intro gg cap w8 F8 hg8 hat hlt8))
            all_goals
              have F9 : OwnI w8 (w1.heap.size + 1 + 1) (some ⟨gg, 0, none⟩) cap (acc ++ [g.w + (-1) * (((-(width - Tw)) * (b + u)).tdiv (Tsh) - ((-(width - Tw)) * b).tdiv (Tsh))]) := by
                unfold OwnI
                rw [List.map_append, List.length_append]
                simp (disch := omega) only [wr64] at F8
                simpa using F8
              have hb8 := b_own (B := w1.heap.size + 1 + 1) (bmk hb3 _).drew (World.ownsRow.alloc own2 _) (by omega) hg8
              have s6 := (r6.alloc _).drew.grown hg8 (fun e => by have := (World.ownsRow.lt own2 _ e.symm).1; omega)
              have s8 := (r8.alloc _).drew.grown hg8 (fun e => by have := (World.ownsRow.lt own2 _ e.symm).1; omega)
              clear F8 hg8 hat own2 r6 r8 hb3 P1 P2 Q1 Q2 SS
              go_wp2
              go_roundw
              case rel => exact ⟨k + 1, some ⟨gg, 0, none⟩, cap, _, b + u, by omega, by go_num, rfl, by omega, by omega, by simp, by simp; exact unhide HAL, hgo2, F9, s6, s8, hb8⟩
              case measure => simp [intOf] <;> omega
          · obtain rfl : n = k := by omega
            have H : Hid (X = acc) := by
              have h := unhide hgo
              rw [drop_end (by rw [unhide HLEN]; exact Nat.le_refl _), setGo] at h
              show _ = _; rw [h]; simp
            clear hgo
            go_wp2
            go_ret2
            rw [unhide HXX, unhide H]
            exact ⟨_, _, _, rfl, own_base hown (by omega), hb⟩
end Go.Proofs.Ytlklkloadefihaa
