/- MakeLeaves, the program's. No condition. -/
import Derived.Test.YtfflnkkhemaanaaMakeM
import Derived.Test.YtfflnkkhemaanaaLeafH
import Derived.Test.YtfflnkkhemaanaaMin
import Derived.Deep.RegionLaw
import Derived.Deep.AppendLies
import Derived.Deep.DeepCutAuto
namespace Go.Proofs.Ytfflnkkhemaanaa
open Go.RowKit
set_option linter.unusedVariables false

def lowP (h : Int) (r : Row) : Bool := decide (r.h ≤ h) && decide (r.f ≤ h)
theorem lowOk_eq (rs : List Row) (h : Int) : lowOk rs h = rs.all (lowP h) := rfl
def lenOf (v : Value) : Nat := match v with | .slice _ n _ => n | _ => 0

set_option maxRecDepth 100000 in
set_option maxHeartbeats 8000000 in
theorem c_makeLeaves (A : Option Addr) (n c : Nat) (rs : List Row) (h : Int) (w : World) (hR : RowsAt w A n c rs) :
    Calls Try.prog 22 #[.slice A n c, .int .i64 h] w fun e w' => ∃ A' c' ls, e = .returned (.tuple #[.slice A' ls.length c', .bool (makeOk rs h)]) ∧ ls.map LfV.leaf = makeLeaves rs h ∧ OwnL w' w.heap.size A' c' ls ∧ Below w.heap.size w w' := by
  have hlen := hR.len
  have hbd := hR.bd
  obtain ⟨i0, hi, hi0, hi1, hi2⟩ := info_parts infoInt
  cases h1 : argsOk rs h
  · have H : Hid (makeLeaves rs h = [] ∧ makeOk rs h = false) := by show _ ∧ _; simp [makeLeaves, makeOk, h1]
    go_enter Try.func22, Try.ntmps22
    go_wp2_with fail
    refine (c_pageArguments h1 _ hR).mono ?_
    rintro e w1 ⟨rfl, hb1⟩
    go_wp2
    go_ret2
    exact ⟨none, 0, [], by rw [(unhide H).2]; rfl, by rw [(unhide H).1]; rfl, OwnL.nil_ _ _, hb1⟩
  obtain ⟨hva, hv, hl, hh1, hh2⟩ := args_parts h1
  have HLEN := hide hlen
  have HV := hide hv
  have hn30 : n ≤ 30 := by omega
  have hml : Hid (lowOk rs h = true → makeOk rs h = true) := fun e => by simp [makeOk, h1, e]
  have hml0 : Hid (lowOk rs h = false → makeOk rs h = false) := fun e => by simp [makeOk, e]
  have hst : Hid (msr rs ⟨0, 0, []⟩ ≤ 60000) := by show _ ≤ _; unfold msr; simp; omega
  clear hva hv hl hlen
  go_enter Try.func22, Try.ntmps22
  go_wp2_with fail
  refine (c_pageArguments h1 _ hR).mono ?_
  rintro e w1 ⟨rfl, hb1⟩
  clear h1
  go_wp2
  go_loopw [23] (fun i wr => ∃ k : Nat, k ≤ n ∧ i = .int .i64 k ∧ Hid ((rs.take k).all (lowP h) = true) ∧ Below w.heap.size w wr) (fun i _ => n - (intOf i).toNat)
  case atStart => exact ⟨0, Nat.zero_le _, rfl, (show _ = _ from rfl), hb1⟩
  case round =>
    clear hb1
    obtain ⟨k, hk, rfl, hall, hb⟩ := hrel
    by_cases hlt : k < n
    · obtain ⟨b, off, r, rfl, hbl, hr, h0, h1, h2, h3⟩ := (hR.next hb).at_ hlt
      by_cases hlow : r.h ≤ h ∧ r.f ≤ h
      · obtain ⟨hl1, hl2⟩ := hlow
        have hall2 := hide (all_snoc hr (unhide hall) (by simp [lowP, hl1, hl2]))
        clear hr hall
        go_wp2
        go_roundw
        case rel => exact ⟨k + 1, by omega, by go_num, hall2, bmk hb _⟩
        case measure => simp [intOf]; omega
      · have hno : lowOk rs h = false := by rw [lowOk_eq]; exact all_not hr (by simp [lowP]; omega)
        have H : Hid (makeLeaves rs h = [] ∧ makeOk rs h = false) := by show _ ∧ _; simp [makeLeaves, unhide hml0 hno]
        clear hno hr hall
        by_cases hl1 : r.h ≤ h
        · have hl2 : h < r.f := by omega
          clear hlow
          go_wp2
          go_ret2
          exact ⟨none, 0, [], by rw [(unhide H).2]; rfl, by rw [(unhide H).1]; rfl, OwnL.nil_ _ _, bmk hb _⟩
        · clear hlow
          go_wp2
          go_ret2
          exact ⟨none, 0, [], by rw [(unhide H).2]; rfl, by rw [(unhide H).1]; rfl, OwnL.nil_ _ _, bmk hb _⟩
    · have hlow : lowOk rs h = true := by rw [lowOk_eq]; exact all_end (by rw [unhide HLEN]; omega) (unhide hall)
      have HLOW := hide hlow
      have HMK : Hid (makeOk rs h = true) := unhide hml hlow
      have HRES : Hid (makeLeaves rs h = makeGo rs h 60000 ⟨0, 0, []⟩) := by show _ = _; rw [makeLeaves, if_pos (unhide HMK)]
      clear hlow hall hml hml0
      go_wp2
      go_loopw [8, 9, 10, 11] (fun ov wv a lf wr => ∃ (s : Bk) (f : Nat) (D : List Int) (N : Int) (AO : Option Addr) (cO : Nat) (acc : List LfV) (AW : Option Addr) (cW : Nat), ov = .slice AO acc.length cO ∧ wv = .slice AW s.wait.length cW ∧ a = .int .i64 s.at_ ∧ lf = .int .i64 s.left ∧ OutM w.heap.size wr AO cO acc AW cW s.wait ∧ s.at_ ≤ n ∧ 0 ≤ s.left ∧ s.left ≤ 1000 ∧ Hid (BkOk rs h D N s) ∧ Hid (msr rs s ≤ f) ∧ acc.length + f ≤ 60000 ∧ Hid (makeLeaves rs h = acc.map LfV.leaf ++ makeGo rs h f s) ∧ Below w.heap.size w wr) (fun _ wv a lf _ => (n - (intOf a).toNat) * 2000 + (intOf lf).toNat + lenOf wv)
      case atStart => exact ⟨⟨0, 0, []⟩, 60000, [], 0, none, 0, [], none, 0, rfl, rfl, rfl, rfl, OutM.start _ _, Nat.zero_le _, by simp, by simp, start_ok rs h, hst, by simp, (show _ = _ by rw [unhide HRES]; rfl), hb⟩
      case round =>
        clear hb
        obtain ⟨⟨aN, lf, wt⟩, f, D, N, AO, cO, acc, AW, cW, rfl, rfl, rfl, rfl, M, haN, hlf0, hlf1, hok, hmf, hac, hgo, hb⟩ := hrel
        dsimp only at M haN hlf0 hlf1 ⊢
        have hmore : more rs ⟨aN, lf, wt⟩ = (decide ((aN : Int) < n) || (decide (0 < lf) || decide (0 < wt.length))) := by
          unfold more; dsimp only; rw [unhide HLEN]
          congr 1
          · simp
          · congr 1; cases wt <;> simp
        have hwl : wt.length ≤ 30 := by
          have h1 := congrArg List.length (unhide hok).figs
          have h2 := figList_len rs aN
          rw [List.length_append] at h1; dsimp only at h1; omega
        obtain ⟨mo, HMO⟩ : ∃ mo, Hid (mo = more rs ⟨aN, lf, wt⟩) := ⟨_, rfl⟩
        rw [← unhide HMO] at hmore
        have HM := hide hmore
        clear hmore
        go_upto_region 12 with fail
        go_cut [50] from 38 to 50 (fun t wx => t = .bool mo ∧ wx = wr)
        case first =>
          by_cases c1 : (aN : Int) < n <;> by_cases c2 : 0 < lf <;> by_cases c3 : 0 < wt.length
          all_goals
            have e : mo = _ := unhide HM
            simp only [c1, c2, c3, decide_true, decide_false, Bool.or_true, Bool.or_false, Bool.or_self] at e
            subst e
            go_wp2
            go_meet
            exact ⟨rfl, rfl⟩
        case rest =>
          obtain ⟨rfl, rfl⟩ := hcut
          obtain ⟨wA, rfl⟩ : ∃ wA : World, wA = wc := ⟨_, rfl⟩
          cases mo
          · have hend : makeGo rs h f ⟨aN, lf, wt⟩ = [] := make_stop (unhide HMO).symm
            have HR : Hid (acc.map LfV.leaf = makeLeaves rs h) := by show _ = _; rw [unhide hgo, hend, List.append_nil]
            clear hend
            go_wp2
            go_ret2
            exact ⟨AO, cO, acc, by rw [unhide HMK]; rfl, unhide HR, M.out, hb⟩
          · obtain ⟨put, HP⟩ : ∃ put : Int, Hid (min lf h = put) := ⟨_, rfl⟩
            have hp : 0 ≤ put ∧ put ≤ lf ∧ put ≤ h := by rw [← unhide HP]; omega
            obtain ⟨hp0, hp1, hp2⟩ := hp
            have BA := hb.size
            have HMORE : Hid (more rs ⟨aN, lf, wt⟩ = true) := (unhide HMO).symm
            obtain ⟨gl, HGL⟩ : ∃ gl, Hid (wA.heap.size = gl) := ⟨_, rfl⟩
            have P0 := M.open_ (#[.int .i64 aN, .int .i64 0, .int .i64 put, .slice none 0 0]) BA
            have B1 := bmk hb (.cells #[.int .i64 aN, .int .i64 0, .int .i64 put, .slice none 0 0] 26)
            rw [unhide HGL] at P0
            clear M hb HM HMO
            go_wp2_with (refine wpList_min rfl rfl rfl rfl ?_; rw [unhide HP])
            rw [unhide HGL]
            go_loopw [9, 13] (fun wv rv wq => ∃ (k L : Nat) (wk fk : List Int) (x : Int) (AW : Option Addr) (cW : Nat) (AF : Option Addr) (cF : Nat), wv = .slice AW L cW ∧ rv = .int .i64 x ∧ Hid (L = wk.length) ∧ Hid (wk = wt.drop k) ∧ Hid (fk = wt.take k) ∧ Hid (k ≤ nTake rs wt (h - put)) ∧ Hid (x = h - put - figsF rs (wt.take k)) ∧ 0 ≤ x ∧ x ≤ 1000 ∧ PageM w.heap.size wq AO cO acc AW cW wk gl #[.int .i64 aN, .int .i64 0, .int .i64 put, .slice AF fk.length cF] AF cF fk ∧ Below w.heap.size w wq) (fun wv _ _ => lenOf wv)
            case atStart => exact ⟨0, wt.length, wt, [], h - put, AW, cW, none, 0, rfl, rfl, rfl, rfl, rfl, Nat.zero_le _, (show _ = _ by simp [figsF_nil]), by omega, by omega, P0, B1⟩
            case round =>
              clear P0 B1 BA
              obtain ⟨k, L, wk, fk, x, AW, cW, AF, cF, rfl, rfl, hL, hwk, hfk, hk, hx, hx0, hx1, P, hb⟩ := hrel
              obtain ⟨wB, rfl⟩ : ∃ wB : World, wB = wr := ⟨_, rfl⟩
              obtain ⟨go, HGO⟩ : ∃ go, Hid (go = decide (k < nTake rs wt (h - put))) := ⟨_, rfl⟩
              have hwin : ∀ y ∈ wt, 0 ≤ y ∧ y < n := fun y hy => by
                have := figList_mem (rs := rs) (k := aN) (x := y) (by rw [← (unhide hok).figs]; simp [hy])
                exact ⟨this.1, by have := this.2.1; omega⟩
              have HWIN := hide hwin
              clear hwin
              go_upto_region 19 with fail
              go_cut [81] from 68 to 81 (fun t wx => t = .bool go ∧ wx = wB)
              case first =>
                cases wk with
                | nil =>
                  have e : go = false := by
                    rw [unhide HGO]
                    have h1 := nTake_le rs wt (h - put)
                    have h2 := congrArg List.length (unhide hwk)
                    rw [List.length_drop] at h2
                    simp at h2
                    simp; omega
                  obtain rfl : L = 0 := unhide hL
                  subst e
                  go_wp2
                  go_meet
                  exact ⟨rfl, rfl⟩
                | cons y t =>
                  have hy : wt[k]? = some y := by
                    have : (wt.drop k)[0]? = some y := by rw [← unhide hwk]; rfl
                    rw [List.getElem?_drop] at this; simpa using this
                  have hL1 : 1 ≤ L := by rw [unhide hL]; simp
                  obtain ⟨hy0, hy1⟩ := unhide HWIN y (mem_of_get hy)
                  have hmore := nTake_more (unhide hk) hy
                  obtain ⟨b, off, A1, rfl, hc, _, _⟩ := P.tail
                  obtain ⟨m, rfl⟩ := Int.eq_ofNat_of_zero_le hy0
                  obtain ⟨b2, off2, r, rfl, hbl2, hr, h0, h1, h2, h3⟩ := (hR.next hb).at_ (k := m) (by omega)
                  rw [figF_get hr, ← unhide hx] at hmore
                  clear hy P hr
                  by_cases hf : r.f ≤ x
                  · have e : go = true := by rw [unhide HGO]; have := hmore.1 hf; simp; omega
                    subst e
                    clear hmore
                    go_wp2
                    go_meet
                    exact ⟨rfl, rfl⟩
                  · have e : go = false := by rw [unhide HGO]; have := hmore.2 (by omega); simp; omega
                    subst e
                    clear hmore
                    go_wp2
                    go_meet
                    exact ⟨rfl, rfl⟩
              case rest =>
                obtain ⟨rfl, rfl⟩ := hcut
                obtain ⟨wB, rfl⟩ : ∃ wB : World, wB = wc := ⟨_, rfl⟩
                cases go
                · have hno : ¬ k < nTake rs wt (h - put) := of_decide_eq_false (unhide HGO).symm
                  have hkk : nTake rs wt (h - put) = k := by have := unhide hk; omega
                  have hop : openPg rs h ⟨aN, lf, wt⟩ = ⟨aN, lf - put, wk, put, fk, x⟩ := by
                    unfold openPg; dsimp only
                    rw [unhide HP, hkk, ← unhide hwk, unhide hx, unhide hfk]
                  have hpg0 := openPg_ok (rs := rs) ⟨hh1, hh2⟩ (unhide hok)
                  rw [hop] at hpg0
                  have HPG : Hid (PgOk rs h D N aN ⟨aN, lf - put, wk, put, fk, x⟩) := hpg0
                  have HPO : Hid (pageOf rs h ⟨aN, lf, wt⟩ = fillPg rs aN n ⟨aN, lf - put, wk, put, fk, x⟩) := by
                    show _ = _; unfold pageOf; rw [hop, unhide HLEN]
                  have hLw : L = wk.length := unhide hL
                  subst hLw
                  clear hno hkk hop hpg0 HGO hwk hfk hk hx hL
                  go_wp2
                  go_loopw [9, 10, 11, 13] (fun wv av lv rv wq => ∃ (p : Pg) (f2 : Nat) (AW : Option Addr) (cW : Nat) (AF : Option Addr) (cF : Nat), wv = .slice AW p.wait.length cW ∧ av = .int .i64 p.at_ ∧ lv = .int .i64 p.left ∧ rv = .int .i64 p.room ∧ Hid (PgOk rs h D N aN p) ∧ aN ≤ p.at_ ∧ p.at_ ≤ n ∧ 0 ≤ p.left ∧ p.left ≤ 1000 ∧ 0 ≤ p.room ∧ p.room ≤ 1000 ∧ 0 ≤ p.notes ∧ p.notes ≤ 1000 ∧ Hid (pageOf rs h ⟨aN, lf, wt⟩ = fillPg rs aN f2 p) ∧ Hid (n ≤ p.at_ + f2) ∧ PageM w.heap.size wq AO cO acc AW cW p.wait gl #[.int .i64 aN, .int .i64 0, .int .i64 p.notes, .slice AF p.figs.length cF] AF cF p.figs ∧ Below w.heap.size w wq) (fun _ av _ _ _ => n - (intOf av).toNat)
                  case atStart => exact ⟨⟨aN, lf - put, wk, put, fk, x⟩, n, AW, cW, AF, cF, rfl, rfl, rfl, rfl, HPG, Nat.le_refl _, haN, by dsimp only; omega, by dsimp only; omega, hx0, hx1, hp0, by dsimp only; omega, HPO, (show n ≤ aN + n by omega), P, hb⟩
                  case round =>
                    clear P hb HPG HPO
                    obtain ⟨⟨pa, pl, pw, pn, pf, pr⟩, f2, AW, cW, AF, cF, rfl, rfl, rfl, rfl, hpg, ha0, ha1, hl0, hl1, hr0, hr1, hn0, hn1, hpo, hpf, P, hb⟩ := hrel
                    dsimp only at hpf ha0 ha1 hl0 hl1 hr0 hr1 hn0 hn1 P ⊢
                    obtain ⟨wC, rfl⟩ : ∃ wC : World, wC = wr := ⟨_, rfl⟩
                    obtain ⟨g2, HG2⟩ : ∃ g2, Hid (g2 = (decide (pl = 0) && decide (pa < n))) := ⟨_, rfl⟩
                    go_upto_region 23 with fail
                    go_cut [108] from 101 to 108 (fun t wx => t = .bool g2 ∧ wx = wC)
                    case first =>
                      by_cases c1 : pl = 0
                      · have c1' : (pl == 0) = true := by simp [c1]
                        by_cases c2 : pa < n
                        · have e : g2 = true := by rw [unhide HG2]; simp [c1, c2]
                          subst e
                          clear c1
                          go_wp2
                          go_meet
                          exact ⟨rfl, rfl⟩
                        · have e : g2 = false := by rw [unhide HG2]; simp; omega
                          subst e
                          clear c1
                          go_wp2
                          go_meet
                          exact ⟨rfl, rfl⟩
                      · have c1' : (pl == 0) = false := by simp [c1]
                        have e : g2 = false := by rw [unhide HG2]; simp [c1]
                        subst e
                        clear c1
                        go_wp2
                        go_meet
                        exact ⟨rfl, rfl⟩
                    case rest =>
                      obtain ⟨rfl, rfl⟩ := hcut
                      obtain ⟨wC, rfl⟩ : ∃ wC : World, wC = wc := ⟨_, rfl⟩
                      cases g2
                      · have hg2 := (unhide HG2).symm
                        have hfin : pageOf rs h ⟨aN, lf, wt⟩ = ⟨pa, pl, pw, pn, pf, pr⟩ := by
                          rw [unhide hpo]
                          refine fill_stop ?_
                          by_cases c1 : pl = 0
                          · right; left; dsimp only; rw [unhide HLEN]; simp [c1] at hg2; exact hg2
                          · left; exact c1
                        have HFIN := hide hfin
                        clear hg2 hfin
                        have hpgF := unhide hpg
                        have hless := page_less (unhide HV) ⟨hh1, hh2⟩ (unhide HLOW) (unhide hok) (unhide HMORE)
                        rw [unhide HFIN] at hless
                        have hmf1 := unhide hmf
                        obtain ⟨f', rfl⟩ : ∃ f', f = f' + 1 := ⟨f - 1, by omega⟩
                        have hmf2 : msr rs ⟨pa, pl, pw⟩ ≤ f' := by show msr rs (endPg ⟨pa, pl, pw, pn, pf, pr⟩) ≤ f'; omega
                        have hgo2 : makeLeaves rs h = (acc ++ [(⟨aN, pa, pn, AF, cF, pf⟩ : LfV)]).map LfV.leaf ++ makeGo rs h f' ⟨pa, pl, pw⟩ := by
                          rw [unhide hgo, make_step (unhide HMORE), unhide HFIN, List.map_append, List.append_assoc]; rfl
                        have HOK : Hid (BkOk rs h (D ++ pf) (N + pn) ⟨pa, pl, pw⟩) := endPg_ok hpgF
                        have HMF := hide hmf2
                        have HGO2 := hide hgo2
                        have hms : (n - pa) * 2000 + pl.toNat + pw.length < (n - aN) * 2000 + lf.toNat + wt.length := by
                          unfold msr endPg at hless; dsimp only at hless; rw [unhide HLEN] at hless; exact hless
                        have q1 : wC.cell? ⟨gl, 1, none⟩ = some (.int .i64 0) := P.box.cell 1
                        have z1 := P.box.frozen 1
                        have PX := P.set_ 1 (.int .i64 pa)
                        have BX := hb.setCell (p := ⟨gl, 1, none⟩) P.glB (.int .i64 (pa : Int))
                        have hac2 : acc.length ≤ 1000000 := by omega
                        clear hpgF hless hmf1 hmf2 hgo2 P hb
                        go_upto_region 38 with fail
                        generalize wC.setCell ⟨gl, 1, none⟩ (.int .i64 (pa : Int)) = wX at PX BX ⊢
                        have hbs := BX.size
                        have q0 : wX.cell? ⟨gl, 0, none⟩ = some (.int .i64 aN) := PX.box.cell 0
                        have q1' : wX.cell? ⟨gl, 1, none⟩ = some (.int .i64 pa) := PX.box.cell 1
                        have q2 : wX.cell? ⟨gl, 2, none⟩ = some (.int .i64 pn) := PX.box.cell 2
                        have q3 : wX.cell? ⟨gl, 3, none⟩ = some (.slice AF pf.length cF) := PX.box.cell 3
                        go_wp2_with (at_builtin; refine wpList_push_La (B := w.heap.size) ⟨aN, pa, pn, AF, cF, pf⟩ rfl rfl PX.o.out.row rfl rfl (by omega) hbs ?_; intro A6 c6 w6 R6 hg6 hloc)
                        have O6 := (PX.next (bof _ (.cells #[.int .i64 aN, .int .i64 pa, .int .i64 pn, .slice AF pf.length cF] 26))).close (l := ⟨aN, pa, pn, AF, cF, pf⟩) rfl rfl rfl R6 hg6 hloc PX.lowO
                        have B6 := (bmk BX (.cells #[.int .i64 aN, .int .i64 pa, .int .i64 pn, .slice AF pf.length cF] 26)).grown hg6 (by have := hbs; simp at this ⊢; omega) (fun k hk => (blk_lt PX.o.out.row hk).1)
                        have hl6 : acc.length + 1 = (acc ++ [(⟨aN, pa, pn, AF, cF, pf⟩ : LfV)]).length := by simp
                        have HL6 := hide hl6
                        clear q0 q1 q1' q2 q3 z1 PX BX R6 hg6 hloc hl6
                        go_roundw
                        case rel => exact ⟨⟨pa, pl, pw⟩, f', D ++ pf, N + pn, A6, c6, acc ++ [⟨aN, pa, pn, AF, cF, pf⟩], AW, cW, by rw [← unhide HL6], rfl, rfl, rfl, O6, ha1, hl0, hl1, HOK, HMF, by rw [← unhide HL6]; omega, HGO2, B6⟩
                        case measure => simp [intOf, lenOf]; omega
                      · have hg2 := (unhide HG2).symm
                        rw [Bool.and_eq_true, decide_eq_true_eq, decide_eq_true_eq] at hg2
                        obtain ⟨hpl, hpn⟩ := hg2
                        subst hpl
                        obtain ⟨b2, off2, r, rfl, hbl2, hr, h0, h1, h2, h3⟩ := (hR.next hb).at_ (k := pa) hpn
                        obtain ⟨⟨rb0, rb1⟩, ⟨rb2, rb3⟩, rb4, rb5⟩ := row_bd (unhide HV) hr
                        have HR := hide hr
                        obtain ⟨gr, HGR⟩ : ∃ gr, Hid (wC.heap.size = gr) := ⟨_, rfl⟩
                        have PB := P.next (bof wC (.cells #[.int .i64 r.h, .bool r.k, .int .i64 r.n, .int .i64 r.f] 48))
                        have BB := bmk hb (.cells #[.int .i64 r.h, .bool r.k, .int .i64 r.n, .int .i64 r.f] 48)
                        have RB := Blk.new wC 48 #[.int .i64 r.h, .bool r.k, .int .i64 r.n, .int .i64 r.f]
                        rw [unhide HGR] at RB
                        have hne : gr ≠ gl := by have := P.box.lt; rw [unhide HGR] at this; omega
                        have hne' : gl ≠ gr := fun e => hne e.symm
                        have hFr : blkOf AF ≠ some gr := fun e => by have := (blk_lt P.fig e).2; rw [unhide HGR] at this; omega
                        have hFL : pf.length + pw.length ≤ 30 := by
                          have h1 := congrArg List.length (unhide hpg).figs
                          have h2 := figList_len rs pa
                          rw [List.length_append, List.length_append] at h1; dsimp only at h1; omega
                        obtain ⟨st, HST⟩ : ∃ st, Hid (st = decide (stops aN r ⟨pa, 0, pw, pn, pf, pr⟩)) := ⟨_, rfl⟩
                        clear hr P hb
                        go_upto_region 25 with fail
                        rw [unhide HGR]
                        generalize wC.alloc (.cells #[.int .i64 r.h, .bool r.k, .int .i64 r.n, .int .i64 r.f] 48) = wY at PB BB RB ⊢
                        go_cut [131] from 113 to 131 (fun t wx => t = .bool st ∧ PageM w.heap.size wx AO cO acc AW cW pw gl #[.int .i64 aN, .int .i64 0, .int .i64 pn, .slice AF pf.length cF] AF cF pf ∧ Blk wx gr 48 #[.int .i64 r.h, .bool r.k, .int .i64 r.n, .int .i64 r.f] ∧ Below w.heap.size w wx)
                        case first =>
                          have q0 : wY.cell? ⟨gl, 0, none⟩ = some (.int .i64 aN) := PB.box.cell 0
                          have r0 : wY.cell? ⟨gr, 0, none⟩ = some (.int .i64 r.h) := RB.cell 0
                          have r2 : wY.cell? ⟨gr, 2, none⟩ = some (.int .i64 r.n) := RB.cell 2
                          unfold stops at HST
                          dsimp only at HST
                          by_cases c1 : pr < r.h + r.n <;> by_cases c2 : aN < pa <;> by_cases c3 : pr < r.h
                          all_goals
                            have e : st = _ := unhide HST
                            simp only [c1, c2, c3, true_and, false_and, or_true, or_false, decide_true, decide_false] at e
                            subst e
                            first
                              | omega
                              | (go_wp2
                                 go_meet
                                 exact ⟨rfl, PB, RB, BB⟩)
                        case rest =>
                          clear PB BB RB
                          obtain ⟨rfl, P, RB, hb⟩ := hcut
                          obtain ⟨wD, rfl⟩ : ∃ wD : World, wD = wc := ⟨_, rfl⟩
                          cases st
                          · have hst : ¬ stops aN r ⟨pa, 0, pw, pn, pf, pr⟩ := of_decide_eq_false (unhide HST).symm
                            have hle : r.h ≤ pr := by unfold stops at hst; dsimp only at hst; omega
                            obtain ⟨put2, HP2⟩ : ∃ put2 : Int, Hid (min r.n (pr - r.h) = put2) := ⟨_, rfl⟩
                            have hp2 : 0 ≤ put2 ∧ put2 ≤ r.n ∧ put2 ≤ pr - r.h := by rw [← unhide HP2]; omega
                            obtain ⟨hp20, hp21, hp22⟩ := hp2
                            obtain ⟨f3, hf3⟩ : ∃ f3, f2 = f3 + 1 := ⟨f2 - 1, by have := unhide hpf; omega⟩
                            have hstep : pageOf rs h ⟨aN, lf, wt⟩ = fillPg rs aN f3 (addRow r ⟨pa, 0, pw, pn, pf, pr⟩) := by
                              rw [unhide hpo, hf3]; exact fill_step rfl (unhide HR) hst
                            have hadd := (addRow_ok (unhide HV) ⟨hh1, hh2⟩ (unhide hpg) rfl (unhide HR) hst).1
                            have hrl := hadd.room_le (unhide HV)
                            have hn0' := hadd.notes0
                            have HPF : Hid (n ≤ pa + 1 + f3) := by show _ ≤ _; have := unhide hpf; omega
                            unfold addRow at hstep hadd hrl hn0'
                            dsimp only at hstep hadd hrl hn0'
                            rw [unhide HP2] at hstep hadd hrl hn0'
                            have r0 : wD.cell? ⟨gr, 0, none⟩ = some (.int .i64 r.h) := RB.cell 0
                            have r2 : wD.cell? ⟨gr, 2, none⟩ = some (.int .i64 r.n) := RB.cell 2
                            have r3 : wD.cell? ⟨gr, 3, none⟩ = some (.int .i64 r.f) := RB.cell 3
                            have q2 : wD.cell? ⟨gl, 2, none⟩ = some (.int .i64 pn) := P.box.cell 2
                            have q3 : wD.cell? ⟨gl, 3, none⟩ = some (.slice AF pf.length cF) := P.box.cell 3
                            have z2 := P.box.frozen 2
                            have P2 := P.set_ 2 (.int .i64 (pn + put2))
                            have B2 := hb.setCell (p := ⟨gl, 2, none⟩) P.glB (.int .i64 (pn + put2))
                            have RB2 := RB.far (p := ⟨gl, 2, none⟩) hne (.int .i64 (pn + put2))
                            have hbs := B2.size
                            clear hf3 hst P hb RB
                            by_cases hf : 0 < r.f
                            · rw [if_pos hf] at hstep hadd hrl hn0'
                              by_cases hw : pw = [] ∧ r.f ≤ pr - r.h - put2
                              · rw [if_pos hw] at hstep hadd hrl hn0'
                                obtain ⟨hw1, hw2⟩ := hw
                                subst hw1
                                have HSTEP : Hid (pageOf rs h ⟨aN, lf, wt⟩ = fillPg rs aN f3 ⟨pa + 1, r.n - put2, [], pn + put2, pf ++ [(pa : Int)], pr - r.h - put2 - r.f⟩) := hstep
                                have HADD : Hid (PgOk rs h D N aN ⟨pa + 1, r.n - put2, [], pn + put2, pf ++ [(pa : Int)], pr - r.h - put2 - r.f⟩) := hadd
                                dsimp only at hn0' hrl
                                obtain ⟨hn2, hn3⟩ := hn0'
                                clear hstep hadd
                                go_upto_region 33 with (refine wpList_min rfl rfl rfl rfl ?_; rw [unhide HP2])
                                generalize wD.setCell ⟨gl, 2, none⟩ (.int .i64 (pn + put2)) = wE at P2 B2 RB2 ⊢
                                have hbs := B2.size
                                have qE3 : wE.cell? ⟨gl, 3, none⟩ = some (.slice AF pf.length cF) := P2.box.cell 3
                                clear r0 r2 r3 q2 q3 z2
                                go_wp2_with (at_builtin; refine wpList_push_Ia (B := w.heap.size) (pa : Int) rfl rfl P2.fig rfl rfl (by omega) hbs ?_; intro A6 c6 w6 O6 hg6 hpre hloc;
                                             have P6 := (P2.next (bof _ (.cells #[.int .i64 (pa : Int)] 3))).pushFig O6 (by rw [← ownBlock_blk]; exact hg6) (m := wE.heap.size) (fun b hb hne => by have := hloc b hb (by rw [ownBlock_blk]; exact hne); rwa [ownBlock_blk] at this) P2.low;
                                             have RB6 := (RB2.alloc (.cells #[.int .i64 (pa : Int)] 3)).grown hg6 (by rw [ownBlock_blk]; exact fun e => hFr e.symm);
                                             have q63 : w6.cell? ⟨gl, 3, none⟩ = some (.slice AF pf.length cF) := P6.box.cell 3;
                                             have z63 := P6.box.frozen 3;
                                             have r63 : w6.cell? ⟨gr, 3, none⟩ = some (.int .i64 r.f) := RB6.cell 3)
                                have hl6 : (pf ++ [(pa : Int)]).length = pf.length + 1 := by simp
                                have P7 : PageM w.heap.size (w6.setCell ⟨gl, 3, none⟩ (.slice A6 (pf.length + 1) c6)) AO cO acc AW cW [] gl #[.int .i64 aN, .int .i64 0, .int .i64 (pn + put2), .slice A6 (pf ++ [(pa : Int)]).length c6] A6 c6 (pf ++ [(pa : Int)]) := by
                                  rw [hl6]; exact P6.set_ 3 _
                                have B7 := (b_own (bmk B2 (.cells #[.int .i64 (pa : Int)] 3)) hpre (Nat.le_refl _) hg6).setCell (p := ⟨gl, 3, none⟩) P6.glB (.slice A6 (pf.length + 1) c6)
                                clear P6 P2 B2 RB2 RB6 q63 z63 r63 qE3 O6 hg6 hpre hloc hl6 hbs
                                go_roundw
                                case rel => exact ⟨⟨pa + 1, r.n - put2, [], pn + put2, pf ++ [(pa : Int)], pr - r.h - put2 - r.f⟩, f3, AW, cW, A6, c6, rfl, by go_num, rfl, rfl, HADD, by dsimp only; omega, by dsimp only; omega, by dsimp only; omega, by dsimp only; omega, by dsimp only; omega, by dsimp only; omega, hn2, hn3, HSTEP, HPF, P7, B7⟩
                                case measure => simp [intOf]; omega
                              · rw [if_neg hw] at hstep hadd hrl hn0'
                                rcases (show 0 < pw.length ∨ (pw.length = 0 ∧ pr - r.h - put2 < r.f) by cases pw with | nil => right; exact ⟨rfl, by simp at hw; omega⟩ | cons a t => left; simp) with hw2 | ⟨hw2, hw3⟩
                                · have hz : ((pw.length : Int) == 0) = false := by rw [beq_eq_false_iff_ne]; omega
                                  clear hw
                                  have HSTEP : Hid (pageOf rs h ⟨aN, lf, wt⟩ = fillPg rs aN f3 ⟨pa + 1, r.n - put2, pw ++ [(pa : Int)], pn + put2, pf, pr - r.h - put2⟩) := hstep
                                  have HADD : Hid (PgOk rs h D N aN ⟨pa + 1, r.n - put2, pw ++ [(pa : Int)], pn + put2, pf, pr - r.h - put2⟩) := hadd
                                  dsimp only at hn0' hrl
                                  obtain ⟨hn2, hn3⟩ := hn0'
                                  clear hstep hadd
                                  go_upto_region 35 with (refine wpList_min rfl rfl rfl rfl ?_; rw [unhide HP2])
                                  generalize wD.setCell ⟨gl, 2, none⟩ (.int .i64 (pn + put2)) = wE at P2 B2 RB2 ⊢
                                  have hbs := B2.size
                                  clear r0 r2 r3 q2 q3 z2
                                  go_wp2_with (at_builtin; refine wpList_push_Q (B := w.heap.size) (pa : Int) rfl rfl P2.o.q rfl rfl (by omega) hbs ?_; intro A6 c6 w6 Q6 hg6 hloc)
                                  have P6 := (P2.next (bof _ (.cells #[.int .i64 (pa : Int)] 3))).pushQ Q6 hg6 (m := wE.heap.size) hloc P2.lowQ
                                  have B6 := (bmk B2 (.cells #[.int .i64 (pa : Int)] 3)).grown hg6 (by have := hbs; simp at this ⊢; omega) (fun k hk => (q_lt P2.o.q hk).1)
                                  clear P2 B2 RB2 Q6 hg6 hloc hbs
                                  go_roundw
                                  case rel => exact ⟨⟨pa + 1, r.n - put2, pw ++ [(pa : Int)], pn + put2, pf, pr - r.h - put2⟩, f3, A6, c6, AF, cF, by simp, by go_num, rfl, rfl, HADD, by dsimp only; omega, by dsimp only; omega, by dsimp only; omega, by dsimp only; omega, by dsimp only; omega, by dsimp only; omega, hn2, hn3, HSTEP, HPF, P6, B6⟩
                                  case measure => simp [intOf]; omega
                                · obtain rfl : pw = [] := List.eq_nil_of_length_eq_zero hw2
                                  clear hw hw2
                                  have HSTEP : Hid (pageOf rs h ⟨aN, lf, wt⟩ = fillPg rs aN f3 ⟨pa + 1, r.n - put2, [] ++ [(pa : Int)], pn + put2, pf, pr - r.h - put2⟩) := hstep
                                  have HADD : Hid (PgOk rs h D N aN ⟨pa + 1, r.n - put2, [] ++ [(pa : Int)], pn + put2, pf, pr - r.h - put2⟩) := hadd
                                  dsimp only at hn0' hrl
                                  obtain ⟨hn2, hn3⟩ := hn0'
                                  clear hstep hadd
                                  go_upto_region 35 with (refine wpList_min rfl rfl rfl rfl ?_; rw [unhide HP2])
                                  generalize wD.setCell ⟨gl, 2, none⟩ (.int .i64 (pn + put2)) = wE at P2 B2 RB2 ⊢
                                  have hbs := B2.size
                                  clear r0 r2 r3 q2 q3 z2
                                  go_wp2_with (at_builtin; refine wpList_push_Q (B := w.heap.size) (pa : Int) rfl rfl P2.o.q rfl rfl (by omega) hbs ?_; intro A6 c6 w6 Q6 hg6 hloc)
                                  have P6 := (P2.next (bof _ (.cells #[.int .i64 (pa : Int)] 3))).pushQ Q6 hg6 (m := wE.heap.size) hloc P2.lowQ
                                  have B6 := (bmk B2 (.cells #[.int .i64 (pa : Int)] 3)).grown hg6 (by have := hbs; simp at this ⊢; omega) (fun k hk => (q_lt P2.o.q hk).1)
                                  clear P2 B2 RB2 Q6 hg6 hloc hbs
                                  go_roundw
                                  case rel => exact ⟨⟨pa + 1, r.n - put2, [] ++ [(pa : Int)], pn + put2, pf, pr - r.h - put2⟩, f3, A6, c6, AF, cF, by simp, by go_num, rfl, rfl, HADD, by dsimp only; omega, by dsimp only; omega, by dsimp only; omega, by dsimp only; omega, by dsimp only; omega, by dsimp only; omega, hn2, hn3, HSTEP, HPF, P6, B6⟩
                                  case measure => simp [intOf]; omega
                            · rw [if_neg hf] at hstep hadd hrl hn0'
                              have HSTEP : Hid (pageOf rs h ⟨aN, lf, wt⟩ = fillPg rs aN f3 ⟨pa + 1, r.n - put2, pw, pn + put2, pf, pr - r.h - put2⟩) := hstep
                              have HADD : Hid (PgOk rs h D N aN ⟨pa + 1, r.n - put2, pw, pn + put2, pf, pr - r.h - put2⟩) := hadd
                              dsimp only at hn0' hrl
                              obtain ⟨hn2, hn3⟩ := hn0'
                              clear hstep hadd
                              go_wp2_with (refine wpList_min rfl rfl rfl rfl ?_; rw [unhide HP2])
                              clear r0 r2 r3 q2 q3 z2 RB2
                              go_roundw
                              case rel => exact ⟨⟨pa + 1, r.n - put2, pw, pn + put2, pf, pr - r.h - put2⟩, f3, AW, cW, AF, cF, rfl, by go_num, rfl, rfl, HADD, by dsimp only; omega, by dsimp only; omega, by dsimp only; omega, by dsimp only; omega, by dsimp only; omega, by dsimp only; omega, hn2, hn3, HSTEP, HPF, P2, B2⟩
                              case measure => simp [intOf]; omega
                          · have hst : stops aN r ⟨pa, 0, pw, pn, pf, pr⟩ := of_decide_eq_true (unhide HST).symm
                            have hfin : pageOf rs h ⟨aN, lf, wt⟩ = ⟨pa, 0, pw, pn, pf, pr⟩ := by
                              rw [unhide hpo]
                              exact fill_stop (.inr (.inr ⟨r, unhide HR, hst⟩))
                            have HFIN := hide hfin
                            clear hst hfin
                            have hpgF := unhide hpg
                            have hless := page_less (unhide HV) ⟨hh1, hh2⟩ (unhide HLOW) (unhide hok) (unhide HMORE)
                            rw [unhide HFIN] at hless
                            have hmf1 := unhide hmf
                            obtain ⟨f', rfl⟩ : ∃ f', f = f' + 1 := ⟨f - 1, by omega⟩
                            have hmf2 : msr rs ⟨pa, 0, pw⟩ ≤ f' := by show msr rs (endPg ⟨pa, 0, pw, pn, pf, pr⟩) ≤ f'; omega
                            have hgo2 : makeLeaves rs h = (acc ++ [(⟨aN, pa, pn, AF, cF, pf⟩ : LfV)]).map LfV.leaf ++ makeGo rs h f' ⟨pa, 0, pw⟩ := by
                              rw [unhide hgo, make_step (unhide HMORE), unhide HFIN, List.map_append, List.append_assoc]; rfl
                            have HOK : Hid (BkOk rs h (D ++ pf) (N + pn) ⟨pa, 0, pw⟩) := endPg_ok hpgF
                            have HMF := hide hmf2
                            have HGO2 := hide hgo2
                            have hms : (n - pa) * 2000 + (0 : Int).toNat + pw.length < (n - aN) * 2000 + lf.toNat + wt.length := by
                              unfold msr endPg at hless; dsimp only at hless; rw [unhide HLEN] at hless; exact hless
                            have q1 : wD.cell? ⟨gl, 1, none⟩ = some (.int .i64 0) := P.box.cell 1
                            have z1 := P.box.frozen 1
                            have PX := P.set_ 1 (.int .i64 pa)
                            have BX := hb.setCell (p := ⟨gl, 1, none⟩) P.glB (.int .i64 (pa : Int))
                            have hac2 : acc.length ≤ 1000000 := by omega
                            clear hpgF hless hmf1 hmf2 hgo2 P hb
                            go_upto_region 38 with fail
                            generalize wD.setCell ⟨gl, 1, none⟩ (.int .i64 (pa : Int)) = wX at PX BX ⊢
                            have hbs := BX.size
                            have q0 : wX.cell? ⟨gl, 0, none⟩ = some (.int .i64 aN) := PX.box.cell 0
                            have q1' : wX.cell? ⟨gl, 1, none⟩ = some (.int .i64 pa) := PX.box.cell 1
                            have q2 : wX.cell? ⟨gl, 2, none⟩ = some (.int .i64 pn) := PX.box.cell 2
                            have q3 : wX.cell? ⟨gl, 3, none⟩ = some (.slice AF pf.length cF) := PX.box.cell 3
                            go_wp2_with (at_builtin; refine wpList_push_La (B := w.heap.size) ⟨aN, pa, pn, AF, cF, pf⟩ rfl rfl PX.o.out.row rfl rfl (by omega) hbs ?_; intro A6 c6 w6 R6 hg6 hloc)
                            have O6 := (PX.next (bof _ (.cells #[.int .i64 aN, .int .i64 pa, .int .i64 pn, .slice AF pf.length cF] 26))).close (l := ⟨aN, pa, pn, AF, cF, pf⟩) rfl rfl rfl R6 hg6 hloc PX.lowO
                            have B6 := (bmk BX (.cells #[.int .i64 aN, .int .i64 pa, .int .i64 pn, .slice AF pf.length cF] 26)).grown hg6 (by have := hbs; simp at this ⊢; omega) (fun k hk => (blk_lt PX.o.out.row hk).1)
                            have hl6 : acc.length + 1 = (acc ++ [(⟨aN, pa, pn, AF, cF, pf⟩ : LfV)]).length := by simp
                            have HL6 := hide hl6
                            clear q0 q1 q1' q2 q3 z1 PX BX R6 hg6 hloc hl6
                            go_roundw
                            case rel => exact ⟨⟨pa, 0, pw⟩, f', D ++ pf, N + pn, A6, c6, acc ++ [⟨aN, pa, pn, AF, cF, pf⟩], AW, cW, by rw [← unhide HL6], rfl, rfl, rfl, O6, ha1, hl0, hl1, HOK, HMF, by rw [← unhide HL6]; omega, HGO2, B6⟩
                            case measure => simp [intOf, lenOf]; omega
                · have hlt : k < nTake rs wt (h - put) := of_decide_eq_true (unhide HGO).symm
                  have hkl : k < wt.length := Nat.lt_of_lt_of_le hlt (nTake_le _ _ _)
                  obtain ⟨y, hy⟩ : ∃ y, wt[k]? = some y := ⟨_, List.getElem?_eq_getElem hkl⟩
                  obtain ⟨hy0, hy1⟩ := unhide HWIN y (mem_of_get hy)
                  have htk : wt.take (k + 1) = wt.take k ++ [y] := take_snoc' hy
                  have hx2 : x - figF rs y = h - put - figsF rs (wt.take (k + 1)) := by rw [htk, figsF_append, figsF_one, unhide hx]; omega
                  have hx3 : 0 ≤ x - figF rs y := by rw [hx2]; exact nTake_room_at rs wt (h - put) (k + 1) (by omega) hlt
                  have hkk : Hid (k + 1 ≤ nTake rs wt (h - put)) := hlt
                  have HFK : Hid (fk ++ [y] = wt.take (k + 1)) := by show _ = _; rw [htk, unhide hfk]
                  obtain ⟨t, HT⟩ : ∃ t, Hid (t = wt.drop (k + 1)) := ⟨_, rfl⟩
                  have hwc : wk = y :: t := by rw [unhide hwk, drop_get hy, unhide HT]
                  subst hwc
                  have hL2 : L - 1 = t.length := by rw [unhide hL]; simp
                  have hL1 : 1 ≤ L := by rw [unhide hL]; simp
                  have HL2 := hide hL2
                  have hLi : (0 : Int) < (L : Int) := by omega
                  have hLn : 0 < L := by omega
                  have hfl : fk.length ≤ 30 := by rw [unhide hfk, List.length_take]; omega
                  obtain ⟨b, off, A1, rfl, hc, _, _⟩ := P.tail
                  obtain ⟨m, rfl⟩ := Int.eq_ofNat_of_zero_le hy0
                  obtain ⟨b2, off2, r, rfl, hbl2, hr, h0, h1, h2, h3⟩ := (hR.next hb).at_ (k := m) (by omega)
                  have hrb := (row_bd (unhide HV) hr).2.2
                  rw [figF_get hr] at hx2 hx3
                  have HX2 := hide hx2
                  have HRW := hide hr
                  have q3 : wB.cell? ⟨gl, 3, none⟩ = some (.slice AF fk.length cF) := P.box.cell 3
                  have PA := P.drew.next (bof wB.drew (.cells #[.int .i64 m] 3))
                  have q3a : (wB.alloc (.cells #[.int .i64 m] 3)).cell? ⟨gl, 3, none⟩ = some (.slice AF fk.length cF) := (P.next (bof wB (.cells #[.int .i64 m] 3))).box.cell 3
                  have hbs := hb.size
                  clear hlt hkl hy htk hx2 h0 h1 h2 h3 hr hL2
                  go_wp2
                  go_region_law
                    ((refine step_append_lies _ (by rfl) _ _ _ (by rfl) w.heap.size 3 i0 _ 1 8 Try.underlying24 hi hi0 hi1 hi2 rfl (by omega) (.slice AF fk.length cF) fk.length (fk.map (Value.int .i64)) (by rfl) PA.fig ⟨wB.heap.size, 0, none⟩ 1 1 [.int .i64 m] (by rfl) (by rfl) (one_new _ _ _) (one_one _) (by omega) (by unfold maxLen; omega) (by omega) (by simp; omega) (wB.heap.size + 1) (by simp) ?_; intro gg cap w8 F8 hg8 hat hlt8;
                      have F8' : OwnI w8 w.heap.size (some ⟨gg, 0, none⟩) cap (fk ++ [(m : Int)]) := (by unfold OwnI; rw [List.map_append, List.length_append]; exact F8);
                      have P8 := PA.pushFig F8' (by rw [← ownBlock_blk]; exact hg8) (m := wB.heap.size) (fun b hb hne e => by
                        rw [ownBlock_blk] at hat
                        have e3 : gg = b := by simpa [blkOf] using e
                        rcases hat with e2 | e2
                        · exact hne (by rw [e2, e3])
                        · omega) P.low;
                      have z8 := P8.box.frozen 3; have q83 : w8.cell? ⟨gl, 3, none⟩ = some (.slice AF fk.length cF) := P8.box.cell 3))
                  all_goals
                    have hfk2 : (fk ++ [(m : Int)]).length = fk.length + 1 := by simp
                    have P9 : PageM w.heap.size (w8.setCell ⟨gl, 3, none⟩ (.slice (some ⟨gg, 0, none⟩) (fk.length + 1) cap)) AO cO acc (some ⟨b, off, none⟩) cW ((m : Int) :: t) gl #[.int .i64 aN, .int .i64 0, .int .i64 put, .slice (some ⟨gg, 0, none⟩) (fk ++ [(m : Int)]).length cap] (some ⟨gg, 0, none⟩) cap (fk ++ [(m : Int)]) := by
                      rw [hfk2]; exact P8.set_ 3 _
                    have B9 := (b_own (bmk hb.drew (.cells #[.int .i64 m] 3)) PA.fig (Nat.le_refl _) hg8).setCell (p := ⟨gl, 3, none⟩) P8.glB (.slice (some ⟨gg, 0, none⟩) (fk.length + 1) cap)
                    obtain ⟨b', off', A1', e', hc9, PT, hsl⟩ := P9.tail
                    obtain ⟨rfl, rfl⟩ : b = b' ∧ off = off' := by simpa using e'
                    have hLt : L = t.length + 1 := by rw [unhide hL]; simp
                    have hsl2 : ∀ wx : World, (Instr.slice 24 (.slice (some ⟨b, off, none⟩) L cW) (some (.int .i64 1)) none none).run Try.prog wx = .ok (.slice A1' (L - 1) (cW - 1)) wx := fun wx => by
                      have := hsl wx
                      rw [← hLt] at this
                      rw [unhide HL2]; exact this
                    obtain ⟨b3, off3, r', e3, hbl3, hr', _, _, _, h3⟩ := (hR.next B9).at_ (k := m) (by omega)
                    obtain ⟨rfl, rfl⟩ : b2 = b3 ∧ off2 = off3 := by simpa using e3
                    rw [unhide HRW] at hr'
                    obtain rfl := Option.some.inj hr'
                    have HFK2 := hide (unhide HFK)
                    clear hfk2 P8 P9 q83 z8 F8 F8' hg8 hat hlt8 e' hsl hLt hr' e3 hc q3 q3a PA P hb hwk hfk
                    go_wp2
                    go_roundw
                    case rel => exact ⟨k + 1, L - 1, t, fk ++ [(m : Int)], x - r.f, A1', cW - 1, some ⟨gg, 0, none⟩, cap, rfl, rfl, HL2, HT, HFK2, hkk, HX2, hx3, by omega, PT, B9⟩
                    case measure => simp [lenOf]; omega
end Go.Proofs.Ytfflnkkhemaanaa
