/- MakeLeaves, the reference's. No condition. -/
import Derived.Test.YtfflnkkhemaanaaOpenPg
namespace Go.Proofs.Ytfflnkkhemaanaa
open Go.RowKit
set_option linter.unusedVariables false

theorem PgOk.height {rs : List Row} {h : Int} {D : List Int} {N : Int} {a : Nat} {p : Pg} (hrv : rowsValid rs = true) (hp : PgOk rs h D N a p) : leafHeight rs ⟨a, p.at_, p.notes, p.figs⟩ = h - p.room := by
  obtain ⟨hv, hl⟩ := rowsValid_iff.1 hrv
  have hfl : ∀ x ∈ p.figs, 0 ≤ x ∧ x < p.at_ := fun x hx => by
    have := figList_mem (rs := rs) (k := p.at_) (x := x) (by rw [← hp.figs]; simp [hx])
    exact ⟨this.1, this.2.1⟩
  have hlen : p.figs.length ≤ 30 := by
    have h1 := figList_len rs p.at_
    rw [← hp.figs, List.length_append, List.length_append] at h1
    have := hp.at_; omega
  unfold leafHeight
  rw [if_pos, hp.room]
  · dsimp only; simp only [Int.toNat_natCast]; omega
  · have h1 := hp.at_; have h2 := hp.from_; have h3 := hp.notes0
    simp only [leafOk, Bool.and_eq_true, inB_iff, hrv, true_and, figsIn, List.all_eq_true]
    refine ⟨⟨by omega, by omega, by omega, decide_eq_true hlen⟩, fun x hx => ?_⟩
    have := hfl x hx; omega
/-- A page under way out of what a call has made. -/
theorem PageM.mk_from {B : Nat} {w w2 : World} {AO : Option Addr} {cO : Nat} {acc : List LfV} {AW : Option Addr} {cW : Nat} {wt : List Int} (M : OutM B w AO cO acc AW cW wt) (hB : B ≤ w.heap.size) (hb : Below w.heap.size w w2) {AF : Option Addr} {cF : Nat} {fk : List Int} {AW' : Option Addr} {cW' : Nat} {wk : List Int}
    (OF : OwnI w2 w.heap.size AF cF fk) (OW : OwnI w2 w.heap.size AW' cW' wk) (dj : Dj (blkOf AF) (blkOf AW')) (bx : Array Value) : PageM B (w2.alloc (.cells bx 26)) AO cO acc AW' cW' wk w2.heap.size bx AF cF fk := by
  have hO : ∀ b, blkOf AO = some b → b < w.heap.size := fun b e => (blk_lt M.out.row e).2
  have hL : ∀ l ∈ acc, ∀ b, blkOf l.A = some b → b < w.heap.size := fun l hl b e => (blk_lt (M.out.figs l hl) e).2
  have hF : ∀ b, blkOf AF = some b → w.heap.size ≤ b ∧ b < w2.heap.size := fun b e => blk_lt OF e
  have hW : ∀ b, blkOf AW' = some b → w.heap.size ≤ b ∧ b < w2.heap.size := fun b e => blk_lt OW e
  have hs := hb.size
  refine ⟨⟨(M.out.next hb).next (bof _ _), OwnQ.of (own_base (World.ownsRow.alloc OW _) hB), ?_, ?_⟩, Blk.new _ _ _, by omega, own_base (World.ownsRow.alloc OF _) hB, ?_, ?_, ?_, ?_, ?_, dj.symm, ?_⟩
  · intro b e1 e2; have := hO b e1; have := (hW b e2).1; omega
  · intro l hl b e1 e2; have := hL l hl b e1; have := (hW b e2).1; omega
  · intro e; have := hO _ e; omega
  · intro e; have := (hW _ e).2; omega
  · intro e; have := (hF _ e).2; omega
  · intro l hl e; have := hL l hl _ e; omega
  · intro b e1 e2; have := hO b e1; have := (hF b e2).1; omega
  · intro l hl b e1 e2; have := hL l hl b e1; have := (hF b e2).1; omega
theorem row_nil {w : World} {B : Nat} {A : Option Addr} {c : Nat} (h : w.ownsRow B 26 4 (.slice A 0 c) 0 []) : OwnL w B A c [] := ⟨h, by simp, by simp, List.Pairwise.nil⟩

set_option maxRecDepth 100000 in
set_option maxHeartbeats 8000000 in
theorem c_makeLeaves' (A : Option Addr) (n c : Nat) (rs : List Row) (h : Int) (w : World) (hR : RowsAt w A n c rs) :
    Calls Try.prog 23 #[.slice A n c, .int .i64 h] w fun e w' => ∃ A' c' ls, e = .returned (.tuple #[.slice A' ls.length c', .bool (makeOk rs h)]) ∧ ls.map LfV.leaf = makeLeaves rs h ∧ OwnL w' w.heap.size A' c' ls ∧ Below w.heap.size w w' := by
  have hlen := hR.len
  have hbd := hR.bd
  have O0 : (w.alloc (.cells #[] 26)).ownsRow w.heap.size 26 4 (.slice (some ⟨w.heap.size, 0, none⟩) 0 0) 0 [] := World.ownsRow_made w #[] 0 (Nat.le_refl _) (Nat.zero_le _) rfl
  have B0 := bof w (.cells #[] 26)
  cases h1 : rowsValid rs
  · have H : Hid (makeLeaves rs h = [] ∧ makeOk rs h = false) := by show _ ∧ _; simp [makeLeaves, makeOk, argsOk, h1]
    go_enter Try.func23, Try.ntmps23
    go_wp2_with fail
    refine (c_rowsValid_b' h1 _ (hR.next B0)).mono ?_
    rintro e w1 ⟨rfl, hb1⟩
    go_wp2
    go_ret2
    exact ⟨_, 0, [], by rw [(unhide H).2]; rfl, by rw [(unhide H).1]; rfl, (row_nil O0).next hb1, bnext B0 hb1⟩
  cases h2 : inB h 1 1000
  · have H : Hid (makeLeaves rs h = [] ∧ makeOk rs h = false) := by show _ ∧ _; simp [makeLeaves, makeOk, argsOk, h2]
    go_enter Try.func23, Try.ntmps23
    go_wp2_with fail
    refine (c_rowsValid_b' h1 _ (hR.next B0)).mono ?_
    rintro e w1 ⟨rfl, hb1⟩
    go_wp2_with fail
    refine (c_l1In_b h2 _).mono ?_
    rintro e w2 ⟨rfl, rfl⟩
    go_wp2
    go_ret2
    exact ⟨_, 0, [], by rw [(unhide H).2]; rfl, by rw [(unhide H).1]; rfl, (row_nil O0).next hb1, bnext B0 hb1⟩
  have hao : argsOk rs h = true := by simp [argsOk, h1, h2]
  obtain ⟨hva, hv, hl, hh1, hh2⟩ := args_parts hao
  have HLEN := hide hlen
  have HV := hide hv
  have HVA := hide hva
  have hn30 : n ≤ 30 := by omega
  have hml : Hid (lowOk rs h = true → makeOk rs h = true) := fun e => by simp [makeOk, hao, e]
  have hml0 : Hid (lowOk rs h = false → makeOk rs h = false) := fun e => by simp [makeOk, e]
  have hst : Hid (msr rs ⟨0, 0, []⟩ ≤ 60000) := by show _ ≤ _; unfold msr; simp; omega
  clear hva hv hl hlen hao
  go_enter Try.func23, Try.ntmps23
  go_wp2_with fail
  refine (c_rowsValid_b' h1 _ (hR.next B0)).mono ?_
  rintro e w1 ⟨rfl, hb1⟩
  go_wp2_with fail
  refine (c_l1In_b h2 _).mono ?_
  rintro e w2 ⟨rfl, rfl⟩
  have O1 := own_next O0 hb1
  have B1 := bnext B0 hb1
  obtain ⟨AZ, HAZ⟩ : ∃ AZ : Option Addr, Hid ((some ⟨w.heap.size, 0, none⟩ : Option Addr) = AZ) := ⟨_, rfl⟩
  rw [unhide HAZ] at O1
  clear h1 h2 O0 B0 hb1
  go_wp2
  rw [unhide HAZ]
  go_loopw [7] (fun i wr => ∃ k : Nat, k ≤ n ∧ i = .int .i64 k ∧ Hid ((rs.take k).all (lowP h) = true) ∧ wr.ownsRow w.heap.size 26 4 (.slice AZ 0 0) 0 [] ∧ Below w.heap.size w wr) (fun i _ => n - (intOf i).toNat)
  case atStart => exact ⟨0, Nat.zero_le _, rfl, (show _ = _ from rfl), O1, B1⟩
  case round =>
    clear B1 O1
    obtain ⟨k, hk, rfl, hall, O, hb⟩ := hrel
    by_cases hlt : k < n
    · obtain ⟨b, off, r, rfl, hbl, hr, h0, h1, h2, h3⟩ := (hR.next hb).at_ hlt
      by_cases hlow : r.h ≤ h ∧ r.f ≤ h
      · obtain ⟨hl1, hl2⟩ := hlow
        have hall2 := hide (all_snoc hr (unhide hall) (by simp [lowP, hl1, hl2]))
        clear hr hall
        go_wp2
        go_roundw
        case rel => exact ⟨k + 1, by omega, by go_num, hall2, O, hb⟩
        case measure => simp [intOf]; omega
      · have hno : lowOk rs h = false := by rw [lowOk_eq]; exact all_not hr (by simp [lowP]; omega)
        have H : Hid (makeLeaves rs h = [] ∧ makeOk rs h = false) := by show _ ∧ _; simp [makeLeaves, unhide hml0 hno]
        clear hno hr hall
        by_cases hl1 : r.h ≤ h
        · have hl2 : h < r.f := by omega
          clear hlow
          go_wp2
          go_ret2
          exact ⟨AZ, 0, [], by rw [(unhide H).2]; rfl, by rw [(unhide H).1]; rfl, row_nil O, hb⟩
        · clear hlow
          go_wp2
          go_ret2
          exact ⟨AZ, 0, [], by rw [(unhide H).2]; rfl, by rw [(unhide H).1]; rfl, row_nil O, hb⟩
    · have hlow : lowOk rs h = true := by rw [lowOk_eq]; exact all_end (by rw [unhide HLEN]; omega) (unhide hall)
      have HLOW := hide hlow
      have HMK : Hid (makeOk rs h = true) := unhide hml hlow
      have HRES : Hid (makeLeaves rs h = makeGo rs h 60000 ⟨0, 0, []⟩) := by show _ = _; rw [makeLeaves, if_pos (unhide HMK)]
      clear hlow hall hml hml0
      have MQ : OutM w.heap.size (wr.alloc (.cells #[] 3)) AZ 0 [] (some ⟨wr.heap.size, 0, none⟩) 0 [] := by
        have hO : ∀ b, blkOf AZ = some b → b < wr.heap.size := fun b e => (blk_lt O e).2
        refine ⟨row_nil (World.ownsRow.alloc O _), OwnQ.of (World.ownsRow_made wr #[] 0 hb.size (Nat.zero_le _) rfl), ?_, by simp⟩
        intro b e1 e2
        have := hO b e1
        simp [blkOf] at e2; omega
      replace hb := bmk hb (.cells #[] 3)
      obtain ⟨AY, HAY⟩ : ∃ AY : Option Addr, Hid ((some ⟨wr.heap.size, 0, none⟩ : Option Addr) = AY) := ⟨_, rfl⟩
      rw [unhide HAY] at MQ
      clear O
      go_wp2
      rw [unhide HAY]
      go_loopw [6, 8, 9, 10] (fun ov a lf wv wr => ∃ (s : Bk) (f : Nat) (D : List Int) (N : Int) (AO : Option Addr) (cO : Nat) (acc : List LfV) (AW : Option Addr) (cW : Nat), ov = .slice AO acc.length cO ∧ wv = .slice AW s.wait.length cW ∧ a = .int .i64 s.at_ ∧ lf = .int .i64 s.left ∧ OutM w.heap.size wr AO cO acc AW cW s.wait ∧ s.at_ ≤ n ∧ 0 ≤ s.left ∧ s.left ≤ 1000 ∧ Hid (BkOk rs h D N s) ∧ Hid (msr rs s ≤ f) ∧ acc.length + f ≤ 60000 ∧ Hid (makeLeaves rs h = acc.map LfV.leaf ++ makeGo rs h f s) ∧ Below w.heap.size w wr) (fun _ a lf wv _ => (n - (intOf a).toNat) * 2000 + (intOf lf).toNat + lenOf wv)
      case atStart => exact ⟨⟨0, 0, []⟩, 60000, [], 0, AZ, 0, [], AY, 0, rfl, rfl, rfl, rfl, MQ, Nat.zero_le _, by simp, by simp, start_ok rs h, hst, by simp, (show _ = _ by rw [unhide HRES]; rfl), hb⟩
      case round =>
        clear hb MQ
        obtain ⟨⟨aN, lf, wt⟩, f, D, N, AO, cO, acc, AW, cW, rfl, rfl, rfl, rfl, M, haN, hlf0, hlf1, hok, hmf, hac, hgo, hb⟩ := hrel
        dsimp only at M haN hlf0 hlf1 ⊢
        have hmore : more rs ⟨aN, lf, wt⟩ = (decide ((aN : Int) < n) || (decide (0 < lf) || decide (0 < wt.length))) := by
          unfold more; dsimp only; rw [unhide HLEN]
          congr 1
          · simp
          · congr 1; cases wt <;> simp
        have hwl : wt.length ≤ 30 := by
          have h1 := congrArg List.length (unhide hok).figs
          have h2 := figList_len rs aN
          rw [List.length_append] at h1; dsimp only at h1; omega
        obtain ⟨mo, HMO⟩ : ∃ mo, Hid (mo = more rs ⟨aN, lf, wt⟩) := ⟨_, rfl⟩
        rw [← unhide HMO] at hmore
        have HM := hide hmore
        clear hmore
        go_upto_region 12 with fail
        go_cut [63] from 51 to 63 (fun t wx => t = .bool mo ∧ wx = wr)
        case first =>
          by_cases c1 : (aN : Int) < n <;> by_cases c2 : 0 < lf <;> by_cases c3 : 0 < wt.length
          all_goals
            have e : mo = _ := unhide HM
            simp only [c1, c2, c3, decide_true, decide_false, Bool.or_true, Bool.or_false, Bool.or_self] at e
            subst e
            go_wp2
            go_meet
            exact ⟨rfl, rfl⟩
        case rest =>
          obtain ⟨rfl, rfl⟩ := hcut
          obtain ⟨wA, rfl⟩ : ∃ wA : World, wA = wc := ⟨_, rfl⟩
          cases mo
          · have hend : makeGo rs h f ⟨aN, lf, wt⟩ = [] := make_stop (unhide HMO).symm
            have HR : Hid (acc.map LfV.leaf = makeLeaves rs h) := by show _ = _; rw [unhide hgo, hend, List.append_nil]
            clear hend
            go_wp2
            go_ret2
            exact ⟨AO, cO, acc, by rw [unhide HMK]; rfl, unhide HR, M.out, hb⟩
          · have HMORE : Hid (more rs ⟨aN, lf, wt⟩ = true) := (unhide HMO).symm
            have hwin : ∀ y ∈ wt, 0 ≤ y ∧ y < n := fun y hy => by
              have := figList_mem (rs := rs) (k := aN) (x := y) (by rw [← (unhide hok).figs]; simp [hy])
              exact ⟨this.1, by have := this.2.1; omega⟩
            have HWIN := hide hwin
            clear hwin HM HMO
            go_wp2_with fail
            refine (c_l13Open A n c rs aN lf AW wt.length cW wt h _ (hR.next hb) M.q.at_ (unhide HV) hn30 (unhide HWIN) hwl ⟨hlf0, hlf1⟩ ⟨hh1, hh2⟩).mono ?_
            rintro e w3 ⟨AF, cF, AX, cX, fk, wk, he, hfk, hwk, OF, OW, dj, hb3⟩
            obtain ⟨put, HP⟩ : ∃ put : Int, Hid (min lf h = put) := ⟨_, rfl⟩
            have hp : 0 ≤ put ∧ put ≤ lf ∧ put ≤ h := by rw [← unhide HP]; omega
            obtain ⟨hp0, hp1, hp2⟩ := hp
            rw [unhide HP] at he hfk hwk
            subst he
            obtain ⟨x, HX⟩ : ∃ x : Int, Hid (x = h - put - figsF rs (wt.take (nTake rs wt (h - put)))) := ⟨_, rfl⟩
            have hop : openPg rs h ⟨aN, lf, wt⟩ = ⟨aN, lf - put, wk, put, fk, x⟩ := by
              unfold openPg; dsimp only
              rw [unhide HP, unhide HX, hfk, hwk]
            have hpg0 := openPg_ok (rs := rs) ⟨hh1, hh2⟩ (unhide hok)
            rw [hop] at hpg0
            have hx0 : 0 ≤ x := hpg0.room0
            have hx1 : x ≤ h := hpg0.room_le (unhide HV)
            have HPG : Hid (PgOk rs h D N aN ⟨aN, lf - put, wk, put, fk, x⟩) := hpg0
            have HPO : Hid (pageOf rs h ⟨aN, lf, wt⟩ = fillPg rs aN n ⟨aN, lf - put, wk, put, fk, x⟩) := by
              show _ = _; unfold pageOf; rw [hop, unhide HLEN]
            have P0 := PageM.mk_from M hb.size hb3 OF OW dj #[.int .i64 aN, .int .i64 aN, .int .i64 put, .slice AF fk.length cF]
            have B1 := bmk (bnext hb hb3) (.cells #[.int .i64 aN, .int .i64 aN, .int .i64 put, .slice AF fk.length cF] 26)
            obtain ⟨gl, HGL⟩ : ∃ gl, Hid (w3.heap.size = gl) := ⟨_, rfl⟩
            rw [unhide HGL] at P0
            clear M hb hb3 OF OW dj hop hpg0 hfk hwk
            go_wp2
            rw [unhide HGL]
            go_loopw [8, 9, 10] (fun av lv wv wq => ∃ (p : Pg) (f2 : Nat) (AW : Option Addr) (cW : Nat) (AF : Option Addr) (cF : Nat), wv = .slice AW p.wait.length cW ∧ av = .int .i64 p.at_ ∧ lv = .int .i64 p.left ∧ Hid (PgOk rs h D N aN p) ∧ aN ≤ p.at_ ∧ p.at_ ≤ n ∧ 0 ≤ p.left ∧ p.left ≤ 1000 ∧ 0 ≤ p.room ∧ p.room ≤ 1000 ∧ 0 ≤ p.notes ∧ p.notes ≤ 1000 ∧ Hid (pageOf rs h ⟨aN, lf, wt⟩ = fillPg rs aN f2 p) ∧ Hid (n ≤ p.at_ + f2) ∧ PageM w.heap.size wq AO cO acc AW cW p.wait gl #[.int .i64 aN, .int .i64 p.at_, .int .i64 p.notes, .slice AF p.figs.length cF] AF cF p.figs ∧ Below w.heap.size w wq) (fun av _ _ _ => n - (intOf av).toNat)
            case atStart => exact ⟨⟨aN, lf - put, wk, put, fk, x⟩, n, AX, cX, AF, cF, rfl, rfl, rfl, HPG, Nat.le_refl _, haN, by dsimp only; omega, by dsimp only; omega, hx0, by dsimp only; omega, hp0, by dsimp only; omega, HPO, (show n ≤ aN + n by omega), P0, B1⟩
            case round =>
              clear P0 B1 HPG HPO
              obtain ⟨⟨pa, pl, pw, pn, pf, pr⟩, f2, AW, cW, AF, cF, rfl, rfl, rfl, hpg, ha0, ha1, hl0, hl1, hr0, hr1, hn0, hn1, hpo, hpf, P, hb⟩ := hrel
              dsimp only at hpf ha0 ha1 hl0 hl1 hr0 hr1 hn0 hn1 P ⊢
              obtain ⟨wC, rfl⟩ : ∃ wC : World, wC = wr := ⟨_, rfl⟩
              obtain ⟨g2, HG2⟩ : ∃ g2, Hid (g2 = (decide (pl = 0) && decide (pa < n))) := ⟨_, rfl⟩
              go_upto_region 16 with fail
              go_cut [83] from 76 to 83 (fun t wx => t = .bool g2 ∧ wx = wC)
              case first =>
                by_cases c2 : pa < n
                · by_cases c1 : pl = 0
                  · have c1' : (pl == 0) = true := by simp [c1]
                    have e : g2 = true := by rw [unhide HG2]; simp [c1, c2]
                    subst e
                    clear c1
                    go_wp2
                    go_meet
                    exact ⟨rfl, rfl⟩
                  · have c1' : (pl == 0) = false := by simp [c1]
                    have e : g2 = false := by rw [unhide HG2]; simp [c1]
                    subst e
                    clear c1
                    go_wp2
                    go_meet
                    exact ⟨rfl, rfl⟩
                · have e : g2 = false := by rw [unhide HG2]; simp; omega
                  subst e
                  go_wp2
                  go_meet
                  exact ⟨rfl, rfl⟩
              case rest =>
                obtain ⟨rfl, rfl⟩ := hcut
                obtain ⟨wC, rfl⟩ : ∃ wC : World, wC = wc := ⟨_, rfl⟩
                cases g2
                · have hg2 := (unhide HG2).symm
                  have hfin : pageOf rs h ⟨aN, lf, wt⟩ = ⟨pa, pl, pw, pn, pf, pr⟩ := by
                    rw [unhide hpo]
                    refine fill_stop ?_
                    by_cases c1 : pl = 0
                    · right; left; dsimp only; rw [unhide HLEN]; simp [c1] at hg2; exact hg2
                    · left; exact c1
                  have HFIN := hide hfin
                  clear hg2 hfin
                  have hpgF := unhide hpg
                  have hless := page_less (unhide HV) ⟨hh1, hh2⟩ (unhide HLOW) (unhide hok) (unhide HMORE)
                  rw [unhide HFIN] at hless
                  have hmf1 := unhide hmf
                  obtain ⟨f', rfl⟩ : ∃ f', f = f' + 1 := ⟨f - 1, by omega⟩
                  have hmf2 : msr rs ⟨pa, pl, pw⟩ ≤ f' := by show msr rs (endPg ⟨pa, pl, pw, pn, pf, pr⟩) ≤ f'; omega
                  have hgo2 : makeLeaves rs h = (acc ++ [(⟨aN, pa, pn, AF, cF, pf⟩ : LfV)]).map LfV.leaf ++ makeGo rs h f' ⟨pa, pl, pw⟩ := by
                    rw [unhide hgo, make_step (unhide HMORE), unhide HFIN, List.map_append, List.append_assoc]; rfl
                  have HOK : Hid (BkOk rs h (D ++ pf) (N + pn) ⟨pa, pl, pw⟩) := endPg_ok hpgF
                  have HMF := hide hmf2
                  have HGO2 := hide hgo2
                  have hms : (n - pa) * 2000 + (pl : Int).toNat + pw.length < (n - aN) * 2000 + lf.toNat + wt.length := by
                    unfold msr endPg at hless; dsimp only at hless; rw [unhide HLEN] at hless; exact hless
                  have q0 : wC.cell? ⟨gl, 0, none⟩ = some (.int .i64 aN) := P.box.cell 0
                  have q1 : wC.cell? ⟨gl, 1, none⟩ = some (.int .i64 pa) := P.box.cell 1
                  have q2 : wC.cell? ⟨gl, 2, none⟩ = some (.int .i64 pn) := P.box.cell 2
                  have q3 : wC.cell? ⟨gl, 3, none⟩ = some (.slice AF pf.length cF) := P.box.cell 3
                  have hbs := hb.size
                  have hac2 : acc.length ≤ 1000000 := by omega
                  clear hpgF hless hmf1 hmf2 hgo2
                  go_wp2_with (at_builtin; refine wpList_push_La (B := w.heap.size) ⟨aN, pa, pn, AF, cF, pf⟩ rfl rfl P.o.out.row rfl rfl (by omega) hbs ?_; intro A6 c6 w6 R6 hg6 hloc)
                  have O6 := (P.next (bof _ (.cells #[.int .i64 aN, .int .i64 pa, .int .i64 pn, .slice AF pf.length cF] 26))).close (l := ⟨aN, pa, pn, AF, cF, pf⟩) rfl rfl rfl R6 hg6 hloc P.lowO
                  have B6 := (bmk hb (.cells #[.int .i64 aN, .int .i64 pa, .int .i64 pn, .slice AF pf.length cF] 26)).grown hg6 (by have := hbs; simp at this ⊢; omega) (fun k hk => (blk_lt P.o.out.row hk).1)
                  have hl6 : acc.length + 1 = (acc ++ [(⟨aN, pa, pn, AF, cF, pf⟩ : LfV)]).length := by simp
                  have HL6 := hide hl6
                  clear q0 q1 q2 q3 P hb R6 hg6 hloc hl6
                  go_roundw
                  case rel => exact ⟨⟨pa, pl, pw⟩, f', D ++ pf, N + pn, A6, c6, acc ++ [⟨aN, pa, pn, AF, cF, pf⟩], AW, cW, by rw [← unhide HL6], rfl, rfl, rfl, O6, ha1, hl0, hl1, HOK, HMF, by rw [← unhide HL6]; omega, HGO2, B6⟩
                  case measure => simp [intOf, lenOf]; omega
                · have hg2 := (unhide HG2).symm
                  rw [Bool.and_eq_true, decide_eq_true_eq, decide_eq_true_eq] at hg2
                  obtain ⟨hpl, hpn⟩ := hg2
                  subst hpl
                  obtain ⟨b2, off2, r, rfl, hbl2, hr, h0, h1, h2, h3⟩ := (hR.next hb).at_ (k := pa) hpn
                  obtain ⟨⟨rb0, rb1⟩, ⟨rb2, rb3⟩, rb4, rb5⟩ := row_bd (unhide HV) hr
                  have HR := hide hr
                  obtain ⟨gr, HGR⟩ : ∃ gr, Hid (wC.heap.size = gr) := ⟨_, rfl⟩
                  have PB := P.next (bof wC (.cells #[.int .i64 r.h, .bool r.k, .int .i64 r.n, .int .i64 r.f] 48))
                  have BB := bmk hb (.cells #[.int .i64 r.h, .bool r.k, .int .i64 r.n, .int .i64 r.f] 48)
                  have RB := Blk.new wC 48 #[.int .i64 r.h, .bool r.k, .int .i64 r.n, .int .i64 r.f]
                  rw [unhide HGR] at RB
                  have hne : gr ≠ gl := by have := P.box.lt; rw [unhide HGR] at this; omega
                  have hne' : gl ≠ gr := fun e => hne e.symm
                  have hFL : pf.length + pw.length ≤ 30 := by
                    have h1 := congrArg List.length (unhide hpg).figs
                    have h2 := figList_len rs pa
                    rw [List.length_append, List.length_append] at h1; dsimp only at h1; omega
                  have hlh := (unhide hpg).height (unhide HVA)
                  dsimp only at hlh
                  obtain ⟨v, HVV⟩ : ∃ v : Int, Hid (h - pr = v) := ⟨_, rfl⟩
                  rw [unhide HVV] at hlh
                  have hhv : h - v = pr := by have := unhide HVV; omega
                  have HLH := hide hlh
                  obtain ⟨st, HST⟩ : ∃ st, Hid (st = decide (stops aN r ⟨pa, 0, pw, pn, pf, pr⟩)) := ⟨_, rfl⟩
                  clear hr P hb hlh
                  go_upto_region 18 with fail
                  rw [unhide HGR]
                  generalize wC.alloc (.cells #[.int .i64 r.h, .bool r.k, .int .i64 r.n, .int .i64 r.f] 48) = wY at PB BB RB ⊢
                  have q0 : wY.cell? ⟨gl, 0, none⟩ = some (.int .i64 aN) := PB.box.cell 0
                  have q1 : wY.cell? ⟨gl, 1, none⟩ = some (.int .i64 pa) := PB.box.cell 1
                  have q2 : wY.cell? ⟨gl, 2, none⟩ = some (.int .i64 pn) := PB.box.cell 2
                  have q3 : wY.cell? ⟨gl, 3, none⟩ = some (.slice AF pf.length cF) := PB.box.cell 3
                  go_wp2_with fail
                  refine (c_leafHeight' _ n c rs aN pa pn AF _ cF pf _ (hR.next BB) PB.fig.at_).mono ?_
                  rintro e wD ⟨he, hb4⟩
                  rw [unhide HLH] at he
                  subst he
                  have P := PB.next hb4
                  have RB := RB.next hb4
                  have hb := bnext BB hb4
                  clear PB BB hb4 q0 q1 q2 q3
                  go_upto_region 19 with fail
                  go_cut [112] from 93 to 112 (fun t wx => t = .bool st ∧ wx = wD)
                  case first =>
                    have q0 : wD.cell? ⟨gl, 0, none⟩ = some (.int .i64 aN) := P.box.cell 0
                    have q1 : wD.cell? ⟨gl, 1, none⟩ = some (.int .i64 pa) := P.box.cell 1
                    have r0 : wD.cell? ⟨gr, 0, none⟩ = some (.int .i64 r.h) := RB.cell 0
                    have r2 : wD.cell? ⟨gr, 2, none⟩ = some (.int .i64 r.n) := RB.cell 2
                    unfold stops at HST
                    dsimp only at HST
                    by_cases c1 : pr < r.h + r.n <;> by_cases c2 : aN < pa <;> by_cases c3 : pr < r.h
                    all_goals
                      have e : st = _ := unhide HST
                      simp only [c1, c2, c3, true_and, false_and, or_true, or_false, decide_true, decide_false] at e
                      subst e
                      first
                        | omega
                        | (go_wp2
                           go_meet
                           exact ⟨rfl, rfl⟩)
                  case rest =>
                    obtain ⟨rfl, rfl⟩ := hcut
                    obtain ⟨wD, rfl⟩ : ∃ wD : World, wD = wc := ⟨_, rfl⟩
                    clear hhv
                    cases st
                    · have hst : ¬ stops aN r ⟨pa, 0, pw, pn, pf, pr⟩ := of_decide_eq_false (unhide HST).symm
                      have hle : r.h ≤ pr := by unfold stops at hst; dsimp only at hst; omega
                      obtain ⟨put2, HP2⟩ : ∃ put2 : Int, Hid (min r.n (pr - r.h) = put2) := ⟨_, rfl⟩
                      have hp2 : 0 ≤ put2 ∧ put2 ≤ r.n ∧ put2 ≤ pr - r.h := by rw [← unhide HP2]; omega
                      obtain ⟨hp20, hp21, hp22⟩ := hp2
                      obtain ⟨f3, hf3⟩ : ∃ f3, f2 = f3 + 1 := ⟨f2 - 1, by have := unhide hpf; omega⟩
                      have hstep : pageOf rs h ⟨aN, lf, wt⟩ = fillPg rs aN f3 (addRow r ⟨pa, 0, pw, pn, pf, pr⟩) := by
                        rw [unhide hpo, hf3]; exact fill_step rfl (unhide HR) hst
                      have hadd := (addRow_ok (unhide HV) ⟨hh1, hh2⟩ (unhide hpg) rfl (unhide HR) hst).1
                      have hrl := hadd.room_le (unhide HV)
                      have hn0' := hadd.notes0
                      have HPF : Hid (n ≤ pa + 1 + f3) := by show _ ≤ _; have := unhide hpf; omega
                      unfold addRow at hstep hadd hrl hn0'
                      dsimp only at hstep hadd hrl hn0'
                      rw [unhide HP2] at hstep hadd hrl hn0'
                      have r0 : wD.cell? ⟨gr, 0, none⟩ = some (.int .i64 r.h) := RB.cell 0
                      have r2 : wD.cell? ⟨gr, 2, none⟩ = some (.int .i64 r.n) := RB.cell 2
                      have r3 : wD.cell? ⟨gr, 3, none⟩ = some (.int .i64 r.f) := RB.cell 3
                      have q1 : wD.cell? ⟨gl, 1, none⟩ = some (.int .i64 pa) := P.box.cell 1
                      have q2 : wD.cell? ⟨gl, 2, none⟩ = some (.int .i64 pn) := P.box.cell 2
                      have q3 : wD.cell? ⟨gl, 3, none⟩ = some (.slice AF pf.length cF) := P.box.cell 3
                      have z1 := P.box.frozen 1
                      have z2 := P.box.frozen 2
                      have P2 := (P.set_ 2 (.int .i64 (pn + put2))).set_ 1 (.int .i64 ((pa : Int) + 1))
                      have B2 := (hb.setCell (p := ⟨gl, 2, none⟩) P.glB (.int .i64 (pn + put2))).setCell (p := ⟨gl, 1, none⟩) P.glB (.int .i64 ((pa : Int) + 1))
                      have RB2 := (RB.far (p := ⟨gl, 2, none⟩) hne (.int .i64 (pn + put2))).far (p := ⟨gl, 1, none⟩) hne (.int .i64 ((pa : Int) + 1))
                      clear hf3 hst P hb RB
                      by_cases hf : 0 < r.f
                      · rw [if_pos hf] at hstep hadd hrl hn0'
                        by_cases hw : pw = [] ∧ r.f ≤ pr - r.h - put2
                        · rw [if_pos hw] at hstep hadd hrl hn0'
                          obtain ⟨hw1, hw2⟩ := hw
                          subst hw1
                          have HSTEP : Hid (pageOf rs h ⟨aN, lf, wt⟩ = fillPg rs aN f3 ⟨pa + 1, r.n - put2, [], pn + put2, pf ++ [(pa : Int)], pr - r.h - put2 - r.f⟩) := hstep
                          have HADD : Hid (PgOk rs h D N aN ⟨pa + 1, r.n - put2, [], pn + put2, pf ++ [(pa : Int)], pr - r.h - put2 - r.f⟩) := hadd
                          dsimp only at hn0' hrl
                          obtain ⟨hn2, hn3⟩ := hn0'
                          clear hstep hadd
                          go_upto_region 27 with (refine wpList_min rfl rfl rfl rfl ?_; rw [unhide HP2])
                          generalize (wD.setCell ⟨gl, 2, none⟩ (.int .i64 (pn + put2))).setCell ⟨gl, 1, none⟩ (.int .i64 ((pa : Int) + 1)) = wE at P2 B2 RB2 ⊢
                          have hbs := B2.size
                          have qE3 : wE.cell? ⟨gl, 3, none⟩ = some (.slice AF pf.length cF) := P2.box.cell 3
                          clear r0 r2 r3 q1 q2 q3 z1 z2
                          go_wp2_with (at_builtin; refine wpList_push_Ia (B := w.heap.size) (pa : Int) rfl rfl P2.fig rfl rfl (by omega) hbs ?_; intro A6 c6 w6 O6 hg6 hpre hloc;
                                       have P6 := (P2.next (bof _ (.cells #[.int .i64 (pa : Int)] 3))).pushFig O6 (by rw [← ownBlock_blk]; exact hg6) (m := wE.heap.size) (fun b hb hne => by have := hloc b hb (by rw [ownBlock_blk]; exact hne); rwa [ownBlock_blk] at this) P2.low;
                                       have q63 : w6.cell? ⟨gl, 3, none⟩ = some (.slice AF pf.length cF) := P6.box.cell 3;
                                       have z63 := P6.box.frozen 3)
                          have hl6 : (pf ++ [(pa : Int)]).length = pf.length + 1 := by simp
                          have P7 : PageM w.heap.size (w6.setCell ⟨gl, 3, none⟩ (.slice A6 (pf.length + 1) c6)) AO cO acc AW cW [] gl #[.int .i64 aN, .int .i64 ((pa : Int) + 1), .int .i64 (pn + put2), .slice A6 (pf ++ [(pa : Int)]).length c6] A6 c6 (pf ++ [(pa : Int)]) := by
                            rw [hl6]; exact P6.set_ 3 _
                          have B7 := (b_own (bmk B2 (.cells #[.int .i64 (pa : Int)] 3)) hpre (Nat.le_refl _) hg6).setCell (p := ⟨gl, 3, none⟩) P6.glB (.slice A6 (pf.length + 1) c6)
                          clear P6 P2 B2 RB2 q63 z63 qE3 O6 hg6 hpre hloc hl6 hbs
                          go_roundw
                          case rel => exact ⟨⟨pa + 1, r.n - put2, [], pn + put2, pf ++ [(pa : Int)], pr - r.h - put2 - r.f⟩, f3, AW, cW, A6, c6, rfl, by go_num, rfl, HADD, by dsimp only; omega, by dsimp only; omega, by dsimp only; omega, by dsimp only; omega, by dsimp only; omega, by dsimp only; omega, hn2, hn3, HSTEP, HPF, P7, B7⟩
                          case measure => simp [intOf]; omega
                        · rw [if_neg hw] at hstep hadd hrl hn0'
                          rcases (show 0 < pw.length ∨ (pw.length = 0 ∧ pr - r.h - put2 < r.f) by cases pw with | nil => right; exact ⟨rfl, by simp at hw; omega⟩ | cons a t => left; simp) with hw2 | ⟨hw2, hw3⟩
                          · have hz : ((pw.length : Int) == 0) = false := by rw [beq_eq_false_iff_ne]; omega
                            clear hw
                            have HSTEP : Hid (pageOf rs h ⟨aN, lf, wt⟩ = fillPg rs aN f3 ⟨pa + 1, r.n - put2, pw ++ [(pa : Int)], pn + put2, pf, pr - r.h - put2⟩) := hstep
                            have HADD : Hid (PgOk rs h D N aN ⟨pa + 1, r.n - put2, pw ++ [(pa : Int)], pn + put2, pf, pr - r.h - put2⟩) := hadd
                            dsimp only at hn0' hrl
                            obtain ⟨hn2, hn3⟩ := hn0'
                            clear hstep hadd
                            go_upto_region 29 with (refine wpList_min rfl rfl rfl rfl ?_; rw [unhide HP2])
                            generalize (wD.setCell ⟨gl, 2, none⟩ (.int .i64 (pn + put2))).setCell ⟨gl, 1, none⟩ (.int .i64 ((pa : Int) + 1)) = wE at P2 B2 RB2 ⊢
                            have hbs := B2.size
                            clear r0 r2 r3 q1 q2 q3 z1 z2
                            go_wp2_with (at_builtin; refine wpList_push_Q (B := w.heap.size) (pa : Int) rfl rfl P2.o.q rfl rfl (by omega) hbs ?_; intro A6 c6 w6 Q6 hg6 hloc)
                            have P6 := (P2.next (bof _ (.cells #[.int .i64 (pa : Int)] 3))).pushQ Q6 hg6 (m := wE.heap.size) hloc P2.lowQ
                            have B6 := (bmk B2 (.cells #[.int .i64 (pa : Int)] 3)).grown hg6 (by have := hbs; simp at this ⊢; omega) (fun k hk => (q_lt P2.o.q hk).1)
                            clear P2 B2 RB2 Q6 hg6 hloc hbs
                            go_roundw
                            case rel => exact ⟨⟨pa + 1, r.n - put2, pw ++ [(pa : Int)], pn + put2, pf, pr - r.h - put2⟩, f3, A6, c6, AF, cF, by simp, by go_num, rfl, HADD, by dsimp only; omega, by dsimp only; omega, by dsimp only; omega, by dsimp only; omega, by dsimp only; omega, by dsimp only; omega, hn2, hn3, HSTEP, HPF, P6, B6⟩
                            case measure => simp [intOf]; omega
                          · obtain rfl : pw = [] := List.eq_nil_of_length_eq_zero hw2
                            clear hw hw2
                            have HSTEP : Hid (pageOf rs h ⟨aN, lf, wt⟩ = fillPg rs aN f3 ⟨pa + 1, r.n - put2, [] ++ [(pa : Int)], pn + put2, pf, pr - r.h - put2⟩) := hstep
                            have HADD : Hid (PgOk rs h D N aN ⟨pa + 1, r.n - put2, [] ++ [(pa : Int)], pn + put2, pf, pr - r.h - put2⟩) := hadd
                            dsimp only at hn0' hrl
                            obtain ⟨hn2, hn3⟩ := hn0'
                            clear hstep hadd
                            go_upto_region 29 with (refine wpList_min rfl rfl rfl rfl ?_; rw [unhide HP2])
                            generalize (wD.setCell ⟨gl, 2, none⟩ (.int .i64 (pn + put2))).setCell ⟨gl, 1, none⟩ (.int .i64 ((pa : Int) + 1)) = wE at P2 B2 RB2 ⊢
                            have hbs := B2.size
                            clear r0 r2 r3 q1 q2 q3 z1 z2
                            go_wp2_with (at_builtin; refine wpList_push_Q (B := w.heap.size) (pa : Int) rfl rfl P2.o.q rfl rfl (by omega) hbs ?_; intro A6 c6 w6 Q6 hg6 hloc)
                            have P6 := (P2.next (bof _ (.cells #[.int .i64 (pa : Int)] 3))).pushQ Q6 hg6 (m := wE.heap.size) hloc P2.lowQ
                            have B6 := (bmk B2 (.cells #[.int .i64 (pa : Int)] 3)).grown hg6 (by have := hbs; simp at this ⊢; omega) (fun k hk => (q_lt P2.o.q hk).1)
                            clear P2 B2 RB2 Q6 hg6 hloc hbs
                            go_roundw
                            case rel => exact ⟨⟨pa + 1, r.n - put2, [] ++ [(pa : Int)], pn + put2, pf, pr - r.h - put2⟩, f3, A6, c6, AF, cF, by simp, by go_num, rfl, HADD, by dsimp only; omega, by dsimp only; omega, by dsimp only; omega, by dsimp only; omega, by dsimp only; omega, by dsimp only; omega, hn2, hn3, HSTEP, HPF, P6, B6⟩
                            case measure => simp [intOf]; omega
                      · rw [if_neg hf] at hstep hadd hrl hn0'
                        have HSTEP : Hid (pageOf rs h ⟨aN, lf, wt⟩ = fillPg rs aN f3 ⟨pa + 1, r.n - put2, pw, pn + put2, pf, pr - r.h - put2⟩) := hstep
                        have HADD : Hid (PgOk rs h D N aN ⟨pa + 1, r.n - put2, pw, pn + put2, pf, pr - r.h - put2⟩) := hadd
                        dsimp only at hn0' hrl
                        obtain ⟨hn2, hn3⟩ := hn0'
                        clear hstep hadd
                        go_wp2_with (refine wpList_min rfl rfl rfl rfl ?_; rw [unhide HP2])
                        clear r0 r2 r3 q1 q2 q3 z1 z2 RB2
                        go_roundw
                        case rel => exact ⟨⟨pa + 1, r.n - put2, pw, pn + put2, pf, pr - r.h - put2⟩, f3, AW, cW, AF, cF, rfl, by go_num, rfl, HADD, by dsimp only; omega, by dsimp only; omega, by dsimp only; omega, by dsimp only; omega, by dsimp only; omega, by dsimp only; omega, hn2, hn3, HSTEP, HPF, P2, B2⟩
                        case measure => simp [intOf]; omega
                    · have hst : stops aN r ⟨pa, 0, pw, pn, pf, pr⟩ := of_decide_eq_true (unhide HST).symm
                      have hfin : pageOf rs h ⟨aN, lf, wt⟩ = ⟨pa, 0, pw, pn, pf, pr⟩ := by
                        rw [unhide hpo]
                        exact fill_stop (.inr (.inr ⟨r, unhide HR, hst⟩))
                      have HFIN := hide hfin
                      clear hst hfin RB
                      have hpgF := unhide hpg
                      have hless := page_less (unhide HV) ⟨hh1, hh2⟩ (unhide HLOW) (unhide hok) (unhide HMORE)
                      rw [unhide HFIN] at hless
                      have hmf1 := unhide hmf
                      obtain ⟨f', rfl⟩ : ∃ f', f = f' + 1 := ⟨f - 1, by omega⟩
                      have hmf2 : msr rs ⟨pa, 0, pw⟩ ≤ f' := by show msr rs (endPg ⟨pa, 0, pw, pn, pf, pr⟩) ≤ f'; omega
                      have hgo2 : makeLeaves rs h = (acc ++ [(⟨aN, pa, pn, AF, cF, pf⟩ : LfV)]).map LfV.leaf ++ makeGo rs h f' ⟨pa, 0, pw⟩ := by
                        rw [unhide hgo, make_step (unhide HMORE), unhide HFIN, List.map_append, List.append_assoc]; rfl
                      have HOK : Hid (BkOk rs h (D ++ pf) (N + pn) ⟨pa, 0, pw⟩) := endPg_ok hpgF
                      have HMF := hide hmf2
                      have HGO2 := hide hgo2
                      have hms : (n - pa) * 2000 + (0 : Int).toNat + pw.length < (n - aN) * 2000 + lf.toNat + wt.length := by
                        unfold msr endPg at hless; dsimp only at hless; rw [unhide HLEN] at hless; exact hless
                      have q0 : wD.cell? ⟨gl, 0, none⟩ = some (.int .i64 aN) := P.box.cell 0
                      have q1 : wD.cell? ⟨gl, 1, none⟩ = some (.int .i64 pa) := P.box.cell 1
                      have q2 : wD.cell? ⟨gl, 2, none⟩ = some (.int .i64 pn) := P.box.cell 2
                      have q3 : wD.cell? ⟨gl, 3, none⟩ = some (.slice AF pf.length cF) := P.box.cell 3
                      have hbs := hb.size
                      have hac2 : acc.length ≤ 1000000 := by omega
                      clear hpgF hless hmf1 hmf2 hgo2
                      go_wp2_with (at_builtin; refine wpList_push_La (B := w.heap.size) ⟨aN, pa, pn, AF, cF, pf⟩ rfl rfl P.o.out.row rfl rfl (by omega) hbs ?_; intro A6 c6 w6 R6 hg6 hloc)
                      have O6 := (P.next (bof _ (.cells #[.int .i64 aN, .int .i64 pa, .int .i64 pn, .slice AF pf.length cF] 26))).close (l := ⟨aN, pa, pn, AF, cF, pf⟩) rfl rfl rfl R6 hg6 hloc P.lowO
                      have B6 := (bmk hb (.cells #[.int .i64 aN, .int .i64 pa, .int .i64 pn, .slice AF pf.length cF] 26)).grown hg6 (by have := hbs; simp at this ⊢; omega) (fun k hk => (blk_lt P.o.out.row hk).1)
                      have hl6 : acc.length + 1 = (acc ++ [(⟨aN, pa, pn, AF, cF, pf⟩ : LfV)]).length := by simp
                      have HL6 := hide hl6
                      clear q0 q1 q2 q3 P hb R6 hg6 hloc hl6
                      go_roundw
                      case rel => exact ⟨⟨pa, 0, pw⟩, f', D ++ pf, N + pn, A6, c6, acc ++ [⟨aN, pa, pn, AF, cF, pf⟩], AW, cW, by rw [← unhide HL6], rfl, rfl, rfl, O6, ha1, hl0, hl1, HOK, HMF, by rw [← unhide HL6]; omega, HGO2, B6⟩
                      case measure => simp [intOf, lenOf]; omega
end Go.Proofs.Ytfflnkkhemaanaa

