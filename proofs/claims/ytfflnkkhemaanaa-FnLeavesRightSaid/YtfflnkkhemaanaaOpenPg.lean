/- A new page with what is left over on it: the reference's l13Open. No condition. -/
import Derived.Test.YtfflnkkhemaanaaMake
import Derived.Test.YtfflnkkhemaanaaRight
namespace Go.Proofs.Ytfflnkkhemaanaa
open Go.RowKit
set_option linter.unusedVariables false

/-- An append onto a row of the call's own, at a step of a region that draws. -/
theorem step_append_rd {P : Program} (w : World) {ops : Array Oper} {o : Oper} {a : Act} {K : Act → World → Prop} {Q : Exit → Act → World → Prop} {E : Prop} (hgd : o.guard = none) (s x : Operand) (t : TypeId)
    (ho : o.op = .call { callee := .builtin .append, args := #[s, x], argTypes := #[t, t] })
    (base : Nat) (e : TypeId) (i : TypeInfo) (z : Value) (size bytes : Nat) (ht : P.underlying t = some (.slice e)) (hi : P.info? e = some i) (hz : i.zero = some z)
    (hsize : i.size = size) (hby : i.bytes = bytes) (hzs : z.cells.size = size) (hsz : 0 < size)
    (v : Value) (n : Nat) (xs : List Value) (hs : a.eval s = v) (hown : w.ownsRow base e size v n xs)
    (A : Option Addr) (m c : Nat) (news : List Value) (hx : a.eval x = .slice A m c) (hr : Rd w A m size news) (h1 : ∀ u ∈ news, u.oneCell' = true)
    (h63 : n + m ≤ maxLen) (hbytes : (n + m) * bytes ≤ 140737488355328) (hbase : base ≤ w.heap.size)
    (h : ∀ v' w', w'.ownsRow base e size v' (n + m) (xs ++ news) → w.grownBy w' v.ownBlock → K (a.put o.dst v') w') : if Region.wanted o (yielded ops a.tmps) = true then Oper.wp P o a w K Q else E := by
  have hw : Region.wanted o (yielded ops a.tmps) = true := by simp [Region.wanted, hgd]
  rw [if_pos hw]
  obtain ⟨v', w', hrun, h2, h3⟩ := run_append_rd (P := P) w base t o.type e i z size bytes ht hi hz hsize hby hzs hsz v n xs hown A m c news hr h1 h63 hbytes hbase
  unfold Oper.wp execOp
  simp only [ho, resolve, invoke, builtin, Sem.run_bind, Sem.run_pure, Result.andThen_ok, List.map_toArray, List.map_cons, List.map_nil, hs, hx, hrun]
  exact h v' w' h2 h3

theorem own_lo2 {w w' : World} {B e sz n : Nat} {v : Value} {xs : List Value} {row : Option Nat} (h : w.ownsRow B e sz v n xs) (hg : w.grownBy w' row) (hr : ∀ k, row = some k → k < B) : w'.ownsRow B e sz v n xs :=
  h.kept hg (by
    cases hv : v.ownBlock with
    | none => exact .inl rfl
    | some k => exact .inr (fun e => by have := hr k e.symm; have := (h.lt k hv).1; omega))
theorem own_hi2 {w w' : World} {B e sz n m : Nat} {v : Value} {xs : List Value} {row : Option Nat} (h : w.ownsRow B e sz v n xs) (hg : w.grownBy w' row) (hv : ∀ k, v.ownBlock = some k → k < m) (hr : ∀ k, row = some k → m ≤ k) : w'.ownsRow B e sz v n xs :=
  h.kept hg (by
    cases hv' : v.ownBlock with
    | none => exact .inl rfl
    | some k => exact .inr (fun e => by have := hr k e.symm; have := hv k hv'; omega))

theorem own_dr2 {w : World} {B e sz n : Nat} {v : Value} {xs : List Value} (h : w.ownsRow B e sz v n xs) : w.drew.ownsRow B e sz v n xs := h
theorem set_z4 (w : World) (b : Nat) (u0 u1 u2 u3 : Value) : w.grownBy ((((w.setCell ⟨b, 0, none⟩ u0).setCell ⟨b, 1, none⟩ u1).setCell ⟨b, 2, none⟩ u2).setCell ⟨b, 3, none⟩ u3) (some b) :=
  gset (gset (gset (gset (grefl w (some b)) (.inl rfl) u0) (.inl rfl) u1) (.inl rfl) u2) (.inl rfl) u3

set_option maxRecDepth 100000 in
set_option maxHeartbeats 4000000 in
theorem c_l13Open (A : Option Addr) (n c : Nat) (rs : List Row) (aN : Nat) (lf : Int) (A2 : Option Addr) (n2 c2 : Nat) (wt : List Int) (h : Int) (w : World) (hR : RowsAt w A n c rs) (hI : IntsAt w A2 n2 c2 wt) (hv : rs.all rowValid = true) (hl : n ≤ 30)
    (hwt : ∀ y ∈ wt, 0 ≤ y ∧ y < n) (hwl : n2 ≤ 30) (hlf : 0 ≤ lf ∧ lf ≤ 1000) (hh : 1 ≤ h ∧ h ≤ 1000) :
    Calls Try.prog 53 #[.slice A n c, .int .i64 aN, .int .i64 lf, .slice A2 n2 c2, .int .i64 h] w fun e w' => ∃ (AF : Option Addr) (cF : Nat) (AW : Option Addr) (cW : Nat) (fk wk : List Int),
      e = .returned (.tuple #[.agg #[.int .i64 aN, .int .i64 aN, .int .i64 (min lf h), .slice AF fk.length cF], .int .i64 (lf - min lf h), .slice AW wk.length cW]) ∧
      fk = wt.take (nTake rs wt (h - min lf h)) ∧ wk = wt.drop (nTake rs wt (h - min lf h)) ∧ OwnI w' w.heap.size AF cF fk ∧ OwnI w' w.heap.size AW cW wk ∧ Dj (blkOf AF) (blkOf AW) ∧ Below w.heap.size w w' := by
  have hbd := hR.bd
  have hbd2 := hI.bd
  obtain ⟨i0, hi, hi0, hi1, hi2⟩ := info_parts infoInt
  have HN2 := hide hI.len
  have HV := hide hv
  have HWIN := hide hwt
  obtain ⟨hlf0, hlf1⟩ := hlf
  obtain ⟨hh1, hh2⟩ := hh
  obtain ⟨put, HP⟩ : ∃ put : Int, Hid (min lf h = put) := ⟨_, rfl⟩
  have hp : 0 ≤ put ∧ put ≤ lf ∧ put ≤ h := by rw [← unhide HP]; omega
  obtain ⟨hp0, hp1, hp2⟩ := hp
  have B0 := bmk (bof w (.cells #[.int .i64 0, .int .i64 0, .int .i64 0, .slice none 0 0] 26)) (.cells #[.int .i64 aN, .int .i64 aN, .int .i64 put, .slice none 0 0] 26)
  have p0 := (Blk.new w 26 #[.int .i64 0, .int .i64 0, .int .i64 0, .slice none 0 0]).alloc (.cells #[.int .i64 aN, .int .i64 aN, .int .i64 put, .slice none 0 0] 26)
  have q0 := Blk.new (w.alloc (.cells #[.int .i64 0, .int .i64 0, .int .i64 0, .slice none 0 0] 26)) 26 #[.int .i64 aN, .int .i64 aN, .int .i64 put, .slice none 0 0]
  simp only [size_alloc'] at q0
  obtain ⟨gz, HGZ⟩ : ∃ gz, Hid (w.heap.size = gz) := ⟨_, rfl⟩
  obtain ⟨gl, HGL⟩ : ∃ gl, Hid (w.heap.size + 1 = gl) := ⟨_, rfl⟩
  have hgl : gz < gl := by rw [← unhide HGL, ← unhide HGZ]; omega
  rw [unhide HGL] at q0
  clear hv hwt
  go_enter Try.func53, Try.ntmps53
  go_wp2_with (refine wpList_min rfl rfl rfl rfl ?_; rw [unhide HP])
  rw [unhide HGL, unhide HGZ]
  rw [unhide HGZ] at p0
  go_loopw [3, 14] (fun wv rv wq => ∃ (k L : Nat) (wk fk : List Int) (x : Int) (AW : Option Addr) (cW : Nat) (AF : Option Addr) (cF : Nat), wv = .slice AW L cW ∧ rv = .int .i64 x ∧ Hid (L = wk.length) ∧ Hid (wk = wt.drop k) ∧ Hid (fk = wt.take k) ∧ Hid (k ≤ nTake rs wt (h - put)) ∧ Hid (x = h - put - figsF rs (wt.take k)) ∧ 0 ≤ x ∧ x ≤ 1000 ∧ L ≤ 30 ∧ IntsAt w AW L cW wk ∧ Blk wq gl 26 #[.int .i64 aN, .int .i64 aN, .int .i64 put, .slice AF fk.length cF] ∧ OwnI wq (gl + 1) AF cF fk ∧ Blk wq gz 26 #[.int .i64 0, .int .i64 0, .int .i64 0, .slice none 0 0] ∧ Below w.heap.size w wq) (fun wv _ _ => lenOf wv)
  case atStart => exact ⟨0, n2, wt, [], h - put, A2, c2, none, 0, rfl, rfl, (unhide HN2).symm, rfl, rfl, Nat.zero_le _, (show _ = _ by simp [figsF_nil]), by omega, by omega, hwl, hI, q0, OwnI.nil_ _ _, p0, B0⟩
  case round =>
    clear q0 p0 B0 hI
    obtain ⟨k, L, wk, fk, x, AW, cW, AF, cF, rfl, rfl, hL, hwk, hfk, hk, hx, hx0, hx1, hL30, hI, q, F, p, hb⟩ := hrel
    obtain ⟨wB, rfl⟩ : ∃ wB : World, wB = wr := ⟨_, rfl⟩
    have hbdI := hI.bd
    obtain ⟨go, HGO⟩ : ∃ go, Hid (go = decide (k < nTake rs wt (h - put))) := ⟨_, rfl⟩
    go_upto_region 3 with fail
    go_cut [38] from 25 to 38 (fun t wx => t = .bool go ∧ wx = wB)
    case first =>
      cases wk with
      | nil =>
        have e : go = false := by
          rw [unhide HGO]
          have h1 := nTake_le rs wt (h - put)
          have h2 := congrArg List.length (unhide hwk)
          rw [List.length_drop] at h2
          simp at h2
          simp; omega
        obtain rfl : L = 0 := unhide hL
        subst e
        go_wp2
        go_meet
        exact ⟨rfl, rfl⟩
      | cons y t =>
        have hy : wt[k]? = some y := by
          have : (wt.drop k)[0]? = some y := by rw [← unhide hwk]; rfl
          rw [List.getElem?_drop] at this; simpa using this
        have hL1 : 0 < L := by rw [unhide hL]; simp
        have hLi : (0 : Int) < (L : Int) := by omega
        obtain ⟨hy0, hy1⟩ := unhide HWIN y (mem_of_get hy)
        have hmore := nTake_more (unhide hk) hy
        obtain ⟨b, off, y', rfl, hbl, hyy, hc⟩ := (hI.next hb).at_ (k := 0) hL1
        simp at hyy
        subst hyy
        rw [Nat.add_zero] at hc
        obtain ⟨m, rfl⟩ := Int.eq_ofNat_of_zero_le hy0
        obtain ⟨b2, off2, r, rfl, hbl2, hr, h0, h1, h2, h3⟩ := (hR.next hb).at_ (k := m) (by omega)
        rw [figF_get hr, ← unhide hx] at hmore
        clear hy hr
        by_cases hf : r.f ≤ x
        · have e : go = true := by rw [unhide HGO]; have := hmore.1 hf; simp; omega
          subst e
          clear hmore
          go_wp2
          go_meet
          exact ⟨rfl, rfl⟩
        · have e : go = false := by rw [unhide HGO]; have := hmore.2 (by omega); simp; omega
          subst e
          clear hmore
          go_wp2
          go_meet
          exact ⟨rfl, rfl⟩
    case rest =>
      obtain ⟨rfl, rfl⟩ := hcut
      obtain ⟨wB, rfl⟩ : ∃ wB : World, wB = wc := ⟨_, rfl⟩
      cases go
      · have hno : ¬ k < nTake rs wt (h - put) := of_decide_eq_false (unhide HGO).symm
        have hkk : nTake rs wt (h - put) = k := by have := unhide hk; omega
        have HFIN : Hid (fk = wt.take (nTake rs wt (h - min lf h)) ∧ wk = wt.drop (nTake rs wt (h - min lf h))) := by
          show _ ∧ _; rw [unhide HP, hkk]; exact ⟨unhide hfk, unhide hwk⟩
        clear hno hkk HGO hwk hfk hk hx
        have q0 : wB.cell? ⟨gl, 0, none⟩ = some (.int .i64 aN) := q.cell 0
        have q1 : wB.cell? ⟨gl, 1, none⟩ = some (.int .i64 aN) := q.cell 1
        have q2 : wB.cell? ⟨gl, 2, none⟩ = some (.int .i64 put) := q.cell 2
        have q3 : wB.cell? ⟨gl, 3, none⟩ = some (.slice AF fk.length cF) := q.cell 3
        have qa := q.alloc (.cells #[] 3)
        have qa0 : (wB.alloc (.cells #[] 3)).cell? ⟨gl, 0, none⟩ = some (.int .i64 aN) := qa.cell 0
        have qa1 : (wB.alloc (.cells #[] 3)).cell? ⟨gl, 1, none⟩ = some (.int .i64 aN) := qa.cell 1
        have qa2 : (wB.alloc (.cells #[] 3)).cell? ⟨gl, 2, none⟩ = some (.int .i64 put) := qa.cell 2
        have qa3 : (wB.alloc (.cells #[] 3)).cell? ⟨gl, 3, none⟩ = some (.slice AF fk.length cF) := qa.cell 3
        have hqs := q.lt
        have hps := p.lt
        have hIB := hI.next hb
        go_wp2
        go_region_law
          ((refine step_append_rd _ (by rfl) (.tmp 63) (.tmp 64) 24 (by rfl) wB.heap.size 3 i0 _ 1 8 Try.underlying24 hi hi0 hi1 hi2 rfl (by decide) _ 0 [] (by rfl) (World.ownsRow_made wB.drew #[] 0 (Nat.le_refl _) (Nat.zero_le _) rfl) AW L cW (wk.map (Value.int .i64)) (by rfl) (IntsAt.next hIB (bmk (Below.refl _ _).drew _)).1 (ints_one wk) (by unfold maxLen; omega) (by omega) (by simp) ?_; intro v8 w8 R8 hg8;
            obtain ⟨A8, c8, rfl, hl8, O8⟩ := OwnI.of (show w8.ownsRow wB.heap.size 3 1 v8 L (wk.map (Value.int .i64)) by simpa using R8);
            have qb := (q.drew.alloc (.cells #[] 3)).grown hg8 (by simp [Value.ownBlock]; omega);
            have pb := (p.drew.alloc (.cells #[] 3)).grown hg8 (by simp [Value.ownBlock]; omega);
            have qb0 : w8.cell? ⟨gl, 0, none⟩ = some (.int .i64 aN) := qb.cell 0;
            have qb1 : w8.cell? ⟨gl, 1, none⟩ = some (.int .i64 aN) := qb.cell 1;
            have qb2 : w8.cell? ⟨gl, 2, none⟩ = some (.int .i64 put) := qb.cell 2;
            have qb3 : w8.cell? ⟨gl, 3, none⟩ = some (.slice AF fk.length cF) := qb.cell 3;
            have pb0 : w8.cell? ⟨gz, 0, none⟩ = some (.int .i64 0) := pb.cell 0;
            have pb1 : w8.cell? ⟨gz, 1, none⟩ = some (.int .i64 0) := pb.cell 1;
            have pb2 : w8.cell? ⟨gz, 2, none⟩ = some (.int .i64 0) := pb.cell 2;
            have pb3 : w8.cell? ⟨gz, 3, none⟩ = some (.slice none 0 0) := pb.cell 3;
            have zb0 := pb.frozen 0; have zb1 := pb.frozen 1; have zb2 := pb.frozen 2; have zb3 := pb.frozen 3))
        all_goals
          have F8 : OwnI w8 (gl + 1) AF cF fk := own_hi2 (World.ownsRow.alloc (own_dr2 F) (.cells #[] 3)) hg8 (m := wB.heap.size) (fun k hk => (World.ownsRow.lt F k hk).2) (by intro k e; simp [Value.ownBlock] at e; omega)
          have BF := bmk hb.drew (.cells #[] 3)
          have BG := BF.grown hg8 (by have := hb.size; simp; omega) (by intro k e; simp [Value.ownBlock] at e; have := hb.size; omega)
          have hLw : L = wk.length := unhide hL
          have hwr := IntWalk.i64_in (lf - put) (by omega)
          have HFlt : Hid (∀ b, blkOf AF = some b → b < wB.heap.size) := fun b e => (blk_lt F e).2
          have HOge : Hid (∀ b, blkOf A8 = some b → wB.heap.size ≤ b) := fun b e => (blk_lt O8 e).1
          have hzz : w.heap.size = gz := unhide HGZ
          have hll : w.heap.size + 1 = gl := unhide HGL
          have hFF := hide F8
          have hOO := hide O8
          have hBG := hide BG
          clear hg8 R8 hl8 qa qa0 qa1 qa2 qa3 q q0 q1 q2 q3 p F hIB hb BF F8 O8 BG hI
          have HZZ := hide hzz
          have HLW := hide hLw
          have HLL := hide hll
          clear hzz hLw hll
          go_wp2
          refine bodyPost_ret (v := .tuple #[.agg #[.int .i64 aN, .int .i64 aN, .int .i64 put, .slice AF fk.length cF], .int .i64 (lf - put), .slice A8 wk.length c8]) (by simp [results, Try.results53, go_sem, *]) rfl ⟨AF, cF, A8, c8, fk, wk, by rw [unhide HP], (unhide HFIN).1, (unhide HFIN).2, ?_, ?_, ?_, ?_⟩
          · exact own_base (own_lo2 (unhide hFF) (set_z4 _ _ _ _ _ _) (by intro k e; injection e with e; omega)) (by have := unhide HZZ; omega)
          · exact own_base (own_lo2 (unhide hOO) (set_z4 _ _ _ _ _ _) (by intro k e; injection e with e; omega)) (by have := unhide HZZ; omega)
          · intro b h1 h2
            have := unhide HFlt b h1
            have := unhide HOge b h2
            omega
          · exact (unhide hBG).grown (set_z4 _ _ _ _ _ _) (unhide hBG).size (by intro k e; injection e with e; have := unhide HZZ; omega)
      · have hlt : k < nTake rs wt (h - put) := of_decide_eq_true (unhide HGO).symm
        have hkl : k < wt.length := Nat.lt_of_lt_of_le hlt (nTake_le _ _ _)
        obtain ⟨y, hy⟩ : ∃ y, wt[k]? = some y := ⟨_, List.getElem?_eq_getElem hkl⟩
        obtain ⟨hy0, hy1⟩ := unhide HWIN y (mem_of_get hy)
        have htk : wt.take (k + 1) = wt.take k ++ [y] := take_snoc' hy
        have hx2 : x - figF rs y = h - put - figsF rs (wt.take (k + 1)) := by rw [htk, figsF_append, figsF_one, unhide hx]; omega
        have hx3 : 0 ≤ x - figF rs y := by rw [hx2]; exact nTake_room_at rs wt (h - put) (k + 1) (by omega) hlt
        have hkk : Hid (k + 1 ≤ nTake rs wt (h - put)) := hlt
        have HFK : Hid (fk ++ [y] = wt.take (k + 1)) := by show _ = _; rw [htk, unhide hfk]
        obtain ⟨t, HT⟩ : ∃ t, Hid (t = wt.drop (k + 1)) := ⟨_, rfl⟩
        have hwc : wk = y :: t := by rw [unhide hwk, drop_get hy, unhide HT]
        subst hwc
        have hL2 : L - 1 = t.length := by rw [unhide hL]; simp
        have hL1 : 0 < L := by rw [unhide hL]; simp
        have hLi : (0 : Int) < (L : Int) := by omega
        have HL2 := hide hL2
        have hfl : fk.length ≤ 30 := by
          have h1 := hI.len
          rw [unhide hfk, List.length_take]
          have h2 := unhide HN2
          omega
        obtain ⟨A1', hT, hsl0⟩ := ints_tail hI
        have hsl := fun wx => hsl0 wx
        obtain ⟨b, off, y', rfl, hbl, hyy, hc⟩ := (hI.next hb).at_ (k := 0) hL1
        simp at hyy
        subst hyy
        rw [Nat.add_zero] at hc
        obtain ⟨m, rfl⟩ := Int.eq_ofNat_of_zero_le hy0
        obtain ⟨b2, off2, r, rfl, hbl2, hr, h0, h1, h2, h3⟩ := (hR.next hb).at_ (k := m) (by omega)
        have hrb := (row_bd (unhide HV) hr).2.2
        rw [figF_get hr] at hx2 hx3
        have HX2 := hide hx2
        have q3 : wB.cell? ⟨gl, 3, none⟩ = some (.slice AF fk.length cF) := q.cell 3
        have qA := q.drew.alloc (.cells #[.int .i64 m] 3)
        have FA := World.ownsRow.alloc (own_dr2 F) (.cells #[.int .i64 m] 3)
        have q3a : (wB.alloc (.cells #[.int .i64 m] 3)).cell? ⟨gl, 3, none⟩ = some (.slice AF fk.length cF) := (q.alloc (.cells #[.int .i64 m] 3)).cell 3
        have hca : (wB.alloc (.cells #[.int .i64 m] 3)).cell? ⟨b, off, none⟩ = some (.int .i64 m) := ((bof wB (.cells #[.int .i64 m] 3)).cell (p := ⟨b, off, none⟩) hbl).trans hc
        have hqs := q.lt
        have HAP : Hid (some gl ≠ (Value.slice AF fk.length cF).ownBlock) := fun e => by have := (World.ownsRow.lt F _ e.symm).1; omega
        clear hlt hkl hy htk hx2 h0 h1 h2 hr hL2 hsl0
        go_wp2
        go_region_law
          ((refine step_append_lies _ (by rfl) _ _ _ (by rfl) (gl + 1) 3 i0 _ 1 8 Try.underlying24 hi hi0 hi1 hi2 rfl (by omega) (.slice AF fk.length cF) fk.length (fk.map (Value.int .i64)) (by rfl) FA ⟨wB.heap.size, 0, none⟩ 1 1 [.int .i64 m] (by rfl) (by rfl) (one_new _ _ _) (one_one _) (by omega) (by unfold maxLen; omega) (by omega) (by simp; omega) (wB.heap.size + 1) (by simp) ?_; intro gg cap w8 F8 hg8 hat hlt8;
            have q8 := qA.grown hg8 (unhide HAP); have z8 := q8.frozen 3; have q83 : w8.cell? ⟨gl, 3, none⟩ = some (.slice AF fk.length cF) := q8.cell 3))
        all_goals
          have h8 : OwnI w8 (gl + 1) (some ⟨gg, 0, none⟩) cap (fk ++ [(m : Int)]) := by
            unfold OwnI; rw [List.map_append, List.length_append]; exact F8
          have hset : w8.grownBy (w8.setCell ⟨gl, 3, none⟩ (.slice (some ⟨gg, 0, none⟩) (fk.length + 1) cap)) (some gl) := gset (grefl w8 (some gl)) (.inl rfl) _
          have F9 : OwnI (w8.setCell ⟨gl, 3, none⟩ (.slice (some ⟨gg, 0, none⟩) (fk.length + 1) cap)) (gl + 1) (some ⟨gg, 0, none⟩) cap (fk ++ [(m : Int)]) := own_lo2 h8 hset (by intro k e; injection e with e; omega)
          have hlen9 : (fk ++ [(m : Int)]).length = fk.length + 1 := by simp
          have q9 : Blk (w8.setCell ⟨gl, 3, none⟩ (.slice (some ⟨gg, 0, none⟩) (fk.length + 1) cap)) gl 26 #[.int .i64 aN, .int .i64 aN, .int .i64 put, .slice (some ⟨gg, 0, none⟩) (fk ++ [(m : Int)]).length cap] := by
            rw [hlen9]; exact q8.set_ 3 _
          have p9 := ((p.drew.alloc (.cells #[.int .i64 m] 3)).grown hg8 (fun e => by have := (World.ownsRow.lt FA gz e.symm).1; omega)).far (p := ⟨gl, 3, none⟩) (by dsimp only; omega) (.slice (some ⟨gg, 0, none⟩) (fk.length + 1) cap)
          have B9 := ((bmk hb.drew (.cells #[.int .i64 m] 3)).grown hg8 (by have := hb.size; simp; omega) (fun k hk => by have := (World.ownsRow.lt FA k hk).1; have := unhide HGL; omega)).setCell (p := ⟨gl, 3, none⟩) (by have := unhide HGL; dsimp only; omega) (.slice (some ⟨gg, 0, none⟩) (fk.length + 1) cap)
          have HFK2 := hide (unhide HFK)
          clear hlen9 hset h8 q8 q83 z8 F8 hg8 hat hlt8 qA FA q3 q3a hca hc q F p hb hI hwk hfk
          go_wp2
          go_roundw
          case rel => exact ⟨k + 1, L - 1, t, fk ++ [(m : Int)], x - r.f, A1', cW - 1, some ⟨gg, 0, none⟩, cap, rfl, rfl, HL2, HT, HFK2, hkk, HX2, hx3, by omega, by omega, hT, q9, F9, p9, B9⟩
          case measure => simp [lenOf]; omega
end Go.Proofs.Ytfflnkkhemaanaa
