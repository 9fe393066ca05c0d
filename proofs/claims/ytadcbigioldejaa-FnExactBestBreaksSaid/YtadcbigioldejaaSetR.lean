/- Glues of the reference: their validity and their sum: contracts. No condition. -/
import Derived.Test.YtadcbigioldejaaAdd
import Derived.Test.YtadcbigioldejaaGlues
import Derived.Deep.RegionLaw
namespace Go.Proofs.Ytadcbigioldejaa
open Go.RowKit
set_option linter.unusedVariables false

theorem wpList_push_L {ops : Array Oper} {rest : List Oper} {o : Oper} {a : Act} {Q : Exit → Act → World → Prop} {B : Nat} {w : World} {s x : Operand} {A : Option Addr} {c : Nat} {rs : List Int} {H : Nat} (r : Int) (hw : o.guard = none)
    (ho : o.op = .call { callee := .builtin .append, args := #[s, x], argTypes := #[23, 23] }) (hown : OwnI w B A c rs) (hs : a.eval s = .slice A rs.length c) (hx : a.eval x = .slice (some ⟨H, 0, none⟩) 1 1) (hH : w.heap.size = H) (hlen : rs.length ≤ 1000000000) (hB : B ≤ w.heap.size)
    (h : ∀ A' c' w', OwnI w' B A' c' (rs ++ [r]) → (w.alloc (.cells #[.int .i64 r] 3)).grownBy w' (Value.slice A rs.length c).ownBlock → (OwnI (w.alloc (.cells #[.int .i64 r] 3)) B A c rs) →
      (∀ g m, g < w.heap.size → (Value.slice A rs.length c).ownBlock ≠ some g → (Value.slice A' m c').ownBlock ≠ some g) → wpList Try.prog ops Q rest (a.put o.dst (.slice A' (rs.length + 1) c')) w') :
    wpList Try.prog ops Q (o :: rest) a (w.alloc (.cells #[.int .i64 r] 3)) := by
  subst hH
  obtain ⟨i0, hi, hz0, hz1, hz2⟩ := info_parts infoInt
  have ho2 : OwnI (w.alloc (.cells #[.int .i64 r] 3)) B A c rs := World.ownsRow.alloc hown _
  refine wpList_append_own_at _ hw s x 23 ho B 3 i0 _ 1 8 Try.underlying23 hi hz0 hz1 hz2 rfl (by decide) _ _ _ hs ho2 ⟨w.heap.size, 0, none⟩ 1 1 [.int .i64 r] hx rfl (one_new _ _ _) (one_one _) (by unfold maxLen; omega) (by omega) (by simp; omega) ?_
  intro v3 w3 hown3 hg3 _ hat
  have hown4 : w3.ownsRow B 3 1 v3 (rs.length + 1) ((rs ++ [r]).map (Value.int .i64)) := by rw [List.map_append]; exact hown3
  obtain ⟨A4, c4, rfl, hl4, hown5⟩ := OwnI.of hown4
  have := h A4 c4 w3 hown5 hg3 ho2 (fun g m hg hne => by
    have e0 : (Value.slice A4 m c4).ownBlock = (Value.slice A4 (rs ++ [r]).length c4).ownBlock := by cases A4 <;> rfl
    rw [e0]
    rcases hat with e | e
    · rw [e]; exact hne
    · rw [e]; simp only [size_alloc']; intro e2; injection e2 with e2; omega)
  simpa using this

set_option maxHeartbeats 800000 in
theorem c_l1Valid (A : Option Addr) (n c : Nat) (gs : List Gl) (w : World) (hR : GlsAt w A n c gs) (hok : gs.all Gl.ok = true) (hn : n ≤ 60) :
    Calls Try.prog 67 #[.slice A n c] w fun e w' => e = .returned (.bool true) ∧ Below w.heap.size w w' := by
  have hbd := hR.bd
  have HOK := hide hok
  clear hok
  go_enter Try.func67, Try.ntmps67
  go_wp2
  go_loopw [3] (fun i wr => ∃ k : Nat, k ≤ n ∧ i = .int .i64 k ∧ Below w.heap.size w wr) (fun i _ => n - (intOf i).toNat)
  case atStart => exact ⟨0, Nat.zero_le _, rfl, Below.refl _ _⟩
  case round =>
    obtain ⟨k, hk, rfl, hb⟩ := hrel
    by_cases hlt : k < n
    · obtain ⟨b, off, g, rfl, hbl, hg, h0, h1, h2, h3⟩ := (hR.next hb).at_ hlt
      have hgk := hide (List.all_eq_true.1 (unhide HOK) g (mem_of_get hg))
      clear hg
      go_wp2_with fail
      refine (c_glueValid' g.w g.st g.sh g.od _).mono ?_
      rintro e w1 ⟨rfl, hb1⟩
      have hgb : glueB g.w g.st g.sh g.od = true := unhide hgk
      rw [hgb]
      clear hgb
      go_wp2
      go_roundw
      case rel => exact ⟨k + 1, by omega, by go_num, bnext hb hb1⟩
      case measure => simp [intOf] <;> omega
    · obtain rfl : n = k := by omega
      have hd : decide ((n : Int) ≤ 60) = true := by simp; omega
      go_wp2
      go_ret
      exact ⟨by simp <;> omega, hb⟩
set_option maxRecDepth 100000 in
set_option maxHeartbeats 3200000 in
theorem c_glueTotal' (A : Option Addr) (n c : Nat) (gs : List Gl) (w : World) (hR : GlsAt w A n c gs) (hok : gs.all Gl.ok = true) (hn : n ≤ 60) (G1 : Gl) (HG1 : Hid (G1 = gTot gs)) :
    Calls Try.prog 68 #[.slice A n c] w fun e w' => e = .returned (.agg #[.int .i64 G1.w, .int .i64 G1.st, .int .i64 G1.sh, .int .i64 G1.od]) ∧ Below w.heap.size w w' := by
  have hlen := hR.len
  have hbd := hR.bd
  have HOK := hide hok
  have HLEN := hide hlen
  clear hok hlen
  have hB := bmk (bof w (.cells #[.int .i64 0, .int .i64 0, .int .i64 0, .int .i64 0] 49)) (.cells #[.int .i64 0, .int .i64 0, .int .i64 0, .int .i64 0] 49)
  have q0 := (Blk.new w 49 #[.int .i64 0, .int .i64 0, .int .i64 0, .int .i64 0]).alloc (.cells #[.int .i64 0, .int .i64 0, .int .i64 0, .int .i64 0] 49)
  have q1 := Blk.new (w.alloc (.cells #[.int .i64 0, .int .i64 0, .int .i64 0, .int .i64 0] 49)) 49 #[.int .i64 0, .int .i64 0, .int .i64 0, .int .i64 0]
  simp only [size_alloc'] at q1
  go_enter Try.func68, Try.ntmps68
  go_wp2_with fail
  refine (c_l1Valid A n c gs _ (hR.next hB) (unhide HOK) hn).mono ?_
  rintro e w1 ⟨rfl, hb1⟩
  replace q0 := q0.next hb1
  replace q1 := q1.next hb1
  replace hB := bnext hB hb1
  clear hb1
  go_wp2
  go_loopw [4] (fun i wr => ∃ (k : Nat) (G : Gl), k ≤ n ∧ i = .int .i64 k ∧ Hid (G = gTot (gs.take k)) ∧ Blk wr w.heap.size 49 #[.int .i64 0, .int .i64 0, .int .i64 0, .int .i64 0] ∧ Blk wr (w.heap.size + 1) 49 #[.int .i64 G.w, .int .i64 G.st, .int .i64 G.sh, .int .i64 G.od] ∧ Below w.heap.size w wr) (fun i _ => n - (intOf i).toNat)
  case atStart => exact ⟨0, ⟨0, 0, 0, 0⟩, Nat.zero_le _, rfl, rfl, q0, q1, hB⟩
  case round =>
    clear q0 q1 hB
    obtain ⟨k, G, hk, rfl, hG, q0, q1, hb⟩ := hrel
    have hokk := take_all_ok (unhide HOK) k
    have hsm : G.Small := by rw [unhide hG]; exact small_tot hokk (by simp; omega)
    have cB0 : wr.cell? ⟨w.heap.size + 1, 0, none⟩ = some (.int .i64 G.w) := q1.cell 0
    have cB1 : wr.cell? ⟨w.heap.size + 1, 1, none⟩ = some (.int .i64 G.st) := q1.cell 1
    have cB2 : wr.cell? ⟨w.heap.size + 1, 2, none⟩ = some (.int .i64 G.sh) := q1.cell 2
    have cB3 : wr.cell? ⟨w.heap.size + 1, 3, none⟩ = some (.int .i64 G.od) := q1.cell 3
    by_cases hlt : k < n
    · obtain ⟨b, off, g, rfl, hbl, hg, h0, h1, h2, h3⟩ := (hR.next hb).at_ hlt
      have hgok := List.all_eq_true.1 (unhide HOK) g (mem_of_get hg)
      have hgs := Gl.small_ok hgok
      have H : Hid (gAdd G g = gTot (gs.take (k + 1))) := by
        show _ = _; rw [take_snoc' hg, ← gAdd_tot hokk hgok, ← unhide hG]
      clear hG hg hokk hgok
      go_wp2
      go_region_law
        ((go_simp; go_at_call 75; refine (c_l1Add G g _ hsm hgs).mono ?_; rintro e w2 ⟨rfl, hb2⟩; have u1 := q1.drew.next hb2; have d0 := u1.cell 0; have d1 := u1.cell 1; have d2 := u1.cell 2; have d3 := u1.cell 3; have f0 := u1.frozen 0; have f1 := u1.frozen 1; have f2 := u1.frozen 2; have f3 := u1.frozen 3))
      all_goals
        generalize gAdd G g = G2 at H ⊢
        have v1 := (((u1.set_ 0 (.int .i64 G2.w)).set_ 1 (.int .i64 G2.st)).set_ 2 (.int .i64 G2.sh)).set_ 3 (.int .i64 G2.od)
        have v0 := ((((q0.drew.next hb2).far (p := ⟨w.heap.size + 1, 0, none⟩) (by dsimp only; omega) (.int .i64 G2.w)).far (p := ⟨w.heap.size + 1, 1, none⟩) (by dsimp only; omega) (.int .i64 G2.st)).far (p := ⟨w.heap.size + 1, 2, none⟩) (by dsimp only; omega) (.int .i64 G2.sh)).far (p := ⟨w.heap.size + 1, 3, none⟩) (by dsimp only; omega) (.int .i64 G2.od)
        have hb3 := ((((bnext hb.drew hb2).setCell (p := ⟨w.heap.size + 1, 0, none⟩) (by dsimp only; omega) (.int .i64 G2.w)).setCell (p := ⟨w.heap.size + 1, 1, none⟩) (by dsimp only; omega) (.int .i64 G2.st)).setCell (p := ⟨w.heap.size + 1, 2, none⟩) (by dsimp only; omega) (.int .i64 G2.sh)).setCell (p := ⟨w.heap.size + 1, 3, none⟩) (by dsimp only; omega) (.int .i64 G2.od)
        clear u1 d0 d1 d2 d3 f0 f1 f2 f3 q0 q1 hb2 hb cB0 cB1 cB2 cB3
        go_wp2
        go_roundw
        case rel => exact ⟨k + 1, G2, by omega, by go_num, H, v0, v1, hb3⟩
        case measure => simp [intOf] <;> omega
    · obtain rfl : n = k := by omega
      have H : Hid (G = G1) := by
        show _ = _; rw [unhide HG1, unhide hG, List.take_of_length_le (by rw [unhide HLEN]; exact Nat.le_refl _)]
      obtain rfl := unhide H
      have p0 := q0.cell 0
      have p1 := q0.cell 1
      have p2 := q0.cell 2
      have p3 := q0.cell 3
      have z0 := q0.frozen 0
      have z1 := q0.frozen 1
      have z2 := q0.frozen 2
      have z3 := q0.frozen 3
      clear hG H HG1 q0 q1 hokk
      go_wp2
      refine bodyPost_ret (v := .agg #[.int .i64 G.w, .int .i64 G.st, .int .i64 G.sh, .int .i64 G.od]) (by simp [results, Try.results68, go_sem, *]) rfl ⟨rfl, ?_⟩
      repeat (refine Below.setCell ?_ (by dsimp only; omega) _)
      exact hb
end Go.Proofs.Ytadcbigioldejaa
