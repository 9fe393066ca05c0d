/- Pages: the reference's PagesCost. No condition. -/
import Derived.Test.YtpbccblenohhoaaPages
namespace Go.Proofs.Ytpbccblenohhoaa
open Go.RowKit
set_option linter.unusedVariables false

theorem sub_valid {rs : List Row} (hv : rs.all rowValid = true) (hl : rs.length ≤ 30) (a k : Nat) : rowsValid ((rs.drop a).take k) = true :=
  rowsValid_iff.2 ⟨all_sub hv (fun r hr => List.mem_of_mem_drop (List.mem_of_mem_take hr)), by rw [List.length_take, List.length_drop]; omega⟩
/-- The height of a part of rows, told by the reference. -/
theorem c_segH {rs : List Row} (hv : rs.all rowValid = true) (hl : rs.length ≤ 30) {a z : Nat} {s : Int} (hs : Hid (s = seg rs a z)) {A : Option Addr} {k c : Nat} (w : World) (hR : RowsAt w A k c ((rs.drop a).take (z - a))) :
    Calls Try.prog 35 #[.slice A k c] w fun e w' => e = .returned (.int .i64 s) ∧ Below w.heap.size w w' := by
  have h1 : heightOf ((rs.drop a).take (z - a)) = s := by rw [heightOf, if_pos (sub_valid hv hl a (z - a)), unhide hs]; rfl
  rw [← h1]; exact c_heightOf' A k c _ w hR
set_option maxHeartbeats 1600000 in
theorem c_l12Good (A : Option Addr) (n c : Nat) (rs : List Row) (h : Int) (A2 : Option Addr) (n2 c2 : Nat) (es : List Int) (w : World) (hR : RowsAt w A n c rs) (hI : IntsAt w A2 n2 c2 es) (hv : rs.all rowValid = true) (hl : n ≤ 30) :
    Calls Try.prog 34 #[.slice A n c, .int .i64 h, .slice A2 n2 c2] w fun e w' => e = .returned (.bool (costGo rs h 0 es).isSome) ∧ Below w.heap.size w w' := by
  have hlen := hR.len
  have hbd := hR.bd
  have hlen2 := hI.len
  have hbd2 := hI.bd
  have HLEN := hide hlen
  have HLEN2 := hide hlen2
  have HV := hide hv
  have hl' : rs.length ≤ 30 := by omega
  have HL := hide hl'
  clear hlen hlen2 hv hl'
  go_enter Try.func34, Try.ntmps34
  go_wp2
  go_loopw [7, 8] (fun f i wr => ∃ (k aN : Nat), k ≤ n2 ∧ i = .int .i64 k ∧ aN ≤ n ∧ f = .int .i64 aN ∧ Hid ((costGo rs h 0 es).isSome = (costGo rs h aN (es.drop k)).isSome) ∧ Below w.heap.size w wr) (fun _ i _ => n2 - (intOf i).toNat)
  case atStart => exact ⟨0, 0, Nat.zero_le _, rfl, Nat.zero_le _, rfl, rfl, Below.refl _ _⟩
  case round =>
    obtain ⟨k, aN, hk, rfl, ha, rfl, hgo, hb⟩ := hrel
    by_cases hlt : k < n2
    · obtain ⟨b, off, x, rfl, hbl, hx, hc⟩ := (hI.next hb).at_ hlt
      have hgo2 := unhide hgo
      rw [drop_get hx, costGo] at hgo2
      have HX := hide hx
      clear hx hgo
      cases hin : inB x ((aN : Int) + 1) (n : Int)
      · have HN : Hid ((costGo rs h 0 es).isSome = false) := by show _ = _; rw [hgo2, unhide HLEN, hin]; rfl
        clear hgo2
        go_wp2_with fail
        refine (c_l1In_b hin _).mono ?_
        rintro e w2 ⟨rfl, rfl⟩
        go_wp2
        go_ret
        exact ⟨by rw [unhide HN] <;> rfl, hb⟩
      · obtain ⟨hx1, hx2⟩ := inB_iff.1 hin
        obtain ⟨z, rfl⟩ := Int.eq_ofNat_of_zero_le (show 0 ≤ x by omega)
        have hz1 : aN < z := by omega
        have hz2 : z ≤ n := by omega
        rw [unhide HLEN, hin, Bool.true_and, Int.toNat_natCast] at hgo2
        have hpk := pageOk_eq rs h hz1 (by rw [unhide HLEN]; exact hz2)
        obtain ⟨s, HS⟩ : ∃ s, Hid (s = seg rs aN z) := ⟨_, rfl⟩
        rw [← unhide HS, unhide HLEN] at hpk
        have HPK := hide hpk
        have hfin : pageOk rs h aN z = false → Hid ((costGo rs h 0 es).isSome = false) := fun hf => by show _ = _; rw [hgo2, hf]; rfl
        have hon : pageOk rs h aN z = true → Hid ((costGo rs h 0 es).isSome = (costGo rs h z (es.drop (k + 1))).isSome) := fun hf => by
          show _ = _; rw [hgo2, hf, if_pos rfl, Option.isSome_map]
        have HFIN := hide hfin
        have HON := hide hon
        clear hgo2 hpk hfin hon
        obtain ⟨A1, hR1, hsl0⟩ := rows_mid (hR.next hb) (Nat.le_of_lt hz1) hz2
        have hsl := fun wx => hsl0 wx
        clear hsl0
        go_wp2_with fail
        refine (c_l1In_b hin _).mono ?_
        rintro e w2 ⟨rfl, rfl⟩
        clear hin
        go_wp2_with fail
        refine (c_segH (unhide HV) (unhide HL) HS _ hR1).mono ?_
        rintro e w3 ⟨rfl, hb3⟩
        have hb4 := bnext hb hb3
        clear hc hR1 hsl hb3 hb
        obtain ⟨b', off', x', e', hbl', hx', hc⟩ := (hI.next hb4).at_ hlt
        obtain ⟨rfl, rfl, _⟩ := (by simpa using e' : b = b' ∧ off = off')
        rw [unhide HX] at hx'
        obtain rfl := Option.some.inj hx'
        clear hx' e'
        obtain ⟨b3, off3, r, rfl, hbl3, hr, h0, h1, h2, h3⟩ := (hR.next hb4).at_ (k := z - 1) (by omega)
        have hkk : keepAt rs (z - 1) = r.k := keepAt_get hr
        have HK := hide hkk
        clear hr hkk h0 h2 h3
        by_cases hsh : s ≤ h
        · by_cases hzn : z = n
          · subst hzn
            have HN := unhide HON (by rw [unhide HPK]; simp [hsh])
            clear h1
            go_wp2
            go_roundw
            case rel => exact ⟨k + 1, z, by omega, by go_num, Nat.le_refl _, rfl, HN, hb4⟩
            case measure => simp [intOf]; omega
          · have hzn2 : z < n := by omega
            cases hrk : r.k
            · have HN := unhide HON (by rw [unhide HPK, unhide HK, hrk]; simp [hsh])
              rw [hrk] at h1
              go_wp2
              go_roundw
              case rel => exact ⟨k + 1, z, by omega, by go_num, hz2, rfl, HN, hb4⟩
              case measure => simp [intOf]; omega
            · have HN := unhide HFIN (by rw [unhide HPK, unhide HK, hrk]; simp [hzn])
              rw [hrk] at h1
              go_wp2
              go_ret
              exact ⟨by rw [unhide HN] <;> rfl, hb4⟩
        · have HN := unhide HFIN (by rw [unhide HPK]; simp [hsh])
          clear h1
          go_wp2
          go_ret
          exact ⟨by rw [unhide HN] <;> rfl, hb4⟩
    · have hgo2 := unhide hgo
      rw [drop_end (by rw [unhide HLEN2]; omega), costGo, unhide HLEN] at hgo2
      clear hgo
      by_cases han : aN = n
      · subst han
        have hq : ((aN : Int) == (aN : Int)) = true := by simp
        have HN : Hid ((costGo rs h 0 es).isSome = true) := by show _ = _; rw [hgo2]; simp
        clear hgo2
        go_wp2
        go_ret
        exact ⟨by rw [unhide HN] <;> rfl, hb⟩
      · have hq : ((aN : Int) == (n : Int)) = false := by simp; omega
        have HN : Hid ((costGo rs h 0 es).isSome = false) := by show _ = _; rw [hgo2, if_neg han]; rfl
        clear hgo2
        go_wp2
        go_ret
        exact ⟨by rw [unhide HN] <;> rfl, hb⟩

/-! ### what a step of a good list of pages is -/
theorem cost_step {rs : List Row} {h x : Int} {a : Nat} {t : List Int} {u : Int} (e : costGo rs h a (x :: t) = some u) :
    ∃ z v : Nat × Int, x = (z.1 : Int) ∧ a < z.1 ∧ z.1 ≤ rs.length ∧ pageOk rs h a z.1 = true ∧ costGo rs h z.1 t = some v.2 ∧ u = pCost rs h a z.1 + v.2 := by
  rw [costGo] at e
  split at e
  · rename_i hc
    rw [Bool.and_eq_true, inB_iff] at hc
    cases hg : costGo rs h x.toNat t with
    | none => rw [hg] at e; cases e
    | some v =>
      rw [hg] at e
      exact ⟨(x.toNat, 0), (0, v), by dsimp only; omega, by dsimp only; omega, by dsimp only; omega, hc.2, hg, (Option.some.inj e).symm⟩
  · cases e
set_option maxHeartbeats 1600000 in
theorem c_pagesCost' (A : Option Addr) (n c : Nat) (rs : List Row) (h : Int) (A2 : Option Addr) (n2 c2 : Nat) (es : List Int) (w : World) (hR : RowsAt w A n c rs) (hI : IntsAt w A2 n2 c2 es) :
    Calls Try.prog 12 #[.slice A n c, .int .i64 h, .slice A2 n2 c2] w fun e w' => e = .returned (.int .i64 (pagesCost rs h es)) ∧ Below w.heap.size w w' := by
  have hlen := hR.len
  have hbd := hR.bd
  have hlen2 := hI.len
  have hbd2 := hI.bd
  cases h1 : rowsValid rs
  · have H : Hid (pagesCost rs h es = -1) := by show _ = _; simp [pagesCost, argsOk, h1]
    go_enter Try.func12, Try.ntmps12
    go_wp2_with fail
    refine (c_rowsValid_b' h1 _ hR).mono ?_
    rintro e w1 ⟨rfl, hb1⟩
    go_wp2
    go_ret
    exact ⟨by rw [unhide H] <;> rfl, hb1⟩
  · cases h2 : inB h 1 1000
    · have H : Hid (pagesCost rs h es = -1) := by show _ = _; simp [pagesCost, argsOk, h2]
      go_enter Try.func12, Try.ntmps12
      go_wp2_with fail
      refine (c_rowsValid_b' h1 _ hR).mono ?_
      rintro e w1 ⟨rfl, hb1⟩
      go_wp2_with fail
      refine (c_l1In_b h2 _).mono ?_
      rintro e w2 ⟨rfl, rfl⟩
      go_wp2
      go_ret
      exact ⟨by rw [unhide H] <;> rfl, hb1⟩
    · obtain ⟨hva, hv, hl, hh1, hh2⟩ := args_parts (rs := rs) (h := h) (by simp [argsOk, h1, h2])
      have H : Hid (pagesCost rs h es = (costGo rs h 0 es).getD (-1)) := by show _ = _; simp [pagesCost, argsOk, h1, h2]
      have hn30 : n ≤ 30 := by omega
      have hlong : 30 < n2 → Hid (pagesCost rs h es = -1) := fun h3 => by
        show _ = _
        rw [unhide H]
        cases hg : costGo rs h 0 es with
        | none => rfl
        | some u => have := costGo_len rs h es 0 u hg; omega
      have HLONG := hide hlong
      have HLEN := hide hlen
      have HLEN2 := hide hlen2
      have HV := hide hv
      have HL := hide hl
      clear hva hv hl hlen hlen2 hlong
      by_cases h3 : 30 < n2
      · have HN := unhide HLONG h3
        go_enter Try.func12, Try.ntmps12
        go_wp2_with fail
        refine (c_rowsValid_b' h1 _ hR).mono ?_
        rintro e w1 ⟨rfl, hb1⟩
        go_wp2_with fail
        refine (c_l1In_b h2 _).mono ?_
        rintro e w2 ⟨rfl, rfl⟩
        go_wp2
        go_ret
        exact ⟨by rw [unhide HN] <;> rfl, hb1⟩
      · cases hg : costGo rs h 0 es with
        | none =>
          have HN : Hid (pagesCost rs h es = -1) := by show _ = _; rw [unhide H, hg]; rfl
          have hsome : (costGo rs h 0 es).isSome = false := by rw [hg]; rfl
          have HSOME := hide hsome
          clear hg hsome
          go_enter Try.func12, Try.ntmps12
          go_wp2_with fail
          refine (c_rowsValid_b' h1 _ hR).mono ?_
          rintro e w1 ⟨rfl, hb1⟩
          go_wp2_with fail
          refine (c_l1In_b h2 _).mono ?_
          rintro e w2 ⟨rfl, rfl⟩
          go_wp2_with fail
          refine (c_l12Good A n c rs h A2 n2 c2 es _ (hR.next hb1) (hI.next hb1) (unhide HV) hn30).mono ?_
          rintro e w3 ⟨he, hb3⟩
          rw [unhide HSOME] at he
          subst he
          go_wp2
          go_ret
          exact ⟨by rw [unhide HN] <;> rfl, bnext hb1 hb3⟩
        | some u =>
          have HN : Hid (pagesCost rs h es = u) := by show _ = _; rw [unhide H, hg]; rfl
          have hsome : (costGo rs h 0 es).isSome = true := by rw [hg]; rfl
          have HSOME := hide hsome
          have HG := hide hg
          clear hg hsome
          go_enter Try.func12, Try.ntmps12
          go_wp2_with fail
          refine (c_rowsValid_b' h1 _ hR).mono ?_
          rintro e w1 ⟨rfl, hb1⟩
          go_wp2_with fail
          refine (c_l1In_b h2 _).mono ?_
          rintro e w2 ⟨rfl, rfl⟩
          go_wp2_with fail
          refine (c_l12Good A n c rs h A2 n2 c2 es _ (hR.next hb1) (hI.next hb1) (unhide HV) hn30).mono ?_
          rintro e w3 ⟨he, hb3⟩
          rw [unhide HSOME] at he
          subst he
          have hb := bnext hb1 hb3
          clear hb1 hb3 h1 h2
          go_wp2
          go_loopw [7, 8, 9] (fun q f i wr => ∃ (k aN : Nat) (sm t : Int), k ≤ n2 ∧ i = .int .i64 k ∧ aN ≤ n ∧ f = .int .i64 aN ∧ q = .int .i64 sm ∧ 0 ≤ sm ∧ sm ≤ 1000000 * (aN : Int) ∧ Hid (costGo rs h aN (es.drop k) = some t) ∧ Hid (u = sm + t) ∧ Below w.heap.size w wr) (fun _ _ i _ => n2 - (intOf i).toNat)
          case atStart => exact ⟨0, 0, 0, u, Nat.zero_le _, rfl, Nat.zero_le _, rfl, rfl, by omega, by omega, HG, by show _ = _; omega, hb⟩
          case round =>
            clear hb
            obtain ⟨k, aN, sm, t, hk, rfl, ha, rfl, rfl, hs0, hs1, hgo, hu, hb⟩ := hrel
            by_cases hlt : k + 1 < n2
            · obtain ⟨b, off, x, rfl, hbl, hx, hc⟩ := (hI.next hb).at_ (k := k) (by omega)
              have hgo2 := unhide hgo
              rw [drop_get hx] at hgo2
              obtain ⟨⟨z, _⟩, ⟨_, v⟩, rfl, hz1, hz2, hok, hgv, htv⟩ := cost_step hgo2
              dsimp only at hz1 hz2 hok hgv htv hc hx
              have hzn : z < n := by
                rw [← unhide HLEN]
                rcases Nat.lt_or_ge z rs.length with hz3 | hz3
                · exact hz3
                · have := costGo_len rs h _ _ _ hgv
                  rw [List.length_drop, unhide HLEN2] at this
                  omega
              have hpc : pCost rs h aN z = (h - seg rs aN z) * (h - seg rs aN z) := by rw [pCost, if_pos hok, if_neg (by rw [unhide HLEN]; omega)]
              have hpb := pCost_bd (unhide HV) (unhide HL) ⟨hh1, hh2⟩ hz1 hz2
              have hsb := seg_bd (unhide HV) (unhide HL) aN z
              obtain ⟨s, HS⟩ : ∃ s, Hid (s = seg rs aN z) := ⟨_, rfl⟩
              rw [← unhide HS] at hpc hsb
              rw [hpc] at hpb htv
              obtain ⟨hp1, hp2⟩ := hpb
              obtain ⟨hsb1, hsb2⟩ := hsb
              have hsq : 0 ≤ (h - s) * (h - s) := by rw [← hpc]; exact pCost_nonneg.2 hok
              have HGV := hide hgv
              have hu2 : u = sm + (h - s) * (h - s) + v := by rw [unhide hu, htv]; omega
              have HU := hide hu2
              have HX := hide hx
              clear hgo2 hpc hok hgv htv hx hu hu2 hgo
              obtain ⟨A1, hR1, hsl0⟩ := rows_mid (hR.next hb) (Nat.le_of_lt hz1) (Nat.le_of_lt hzn)
              have hsl := fun wx => hsl0 wx
              clear hsl0
              go_wp2_with fail
              refine (c_segH (unhide HV) (unhide HL) HS _ hR1).mono ?_
              rintro e w4 ⟨rfl, hb4⟩
              have hb5 := bnext hb hb4
              clear hc hR1 hsl hb4 hb
              obtain ⟨b', off', x', e', hbl', hx', hc⟩ := (hI.next hb5).at_ (k := k) (by omega)
              obtain ⟨rfl, rfl, _⟩ := (by simpa using e' : b = b' ∧ off = off')
              rw [unhide HX] at hx'
              obtain rfl := Option.some.inj hx'
              clear hx' e'
              go_wp2
              go_roundw
              case rel => exact ⟨k + 1, z, sm + (h - s) * (h - s), v, by omega, by go_num, by omega, rfl, rfl, by omega, by omega, HGV, HU, hb5⟩
              case measure => simp [intOf]; omega
            · have hut : u = sm := by
                have hgo2 := unhide hgo
                rcases Nat.lt_or_ge k es.length with hk2 | hk2
                · have hx : es[k]? = some (es[k]'hk2) := List.getElem?_eq_getElem _
                  rw [drop_get hx, drop_end (l := es) (k := k + 1) (by rw [unhide HLEN2]; omega)] at hgo2
                  obtain ⟨⟨z, _⟩, ⟨_, v⟩, _, hz1, hz2, hok, hgv, htv⟩ := cost_step hgo2
                  dsimp only at hgv htv hok
                  rw [costGo] at hgv
                  split at hgv
                  · rename_i hzl
                    have hv0 := Option.some.inj hgv
                    have hp0 : pCost rs h aN z = 0 := by rw [pCost, if_pos hok, if_pos hzl]
                    rw [unhide hu, htv, hp0]; omega
                  · cases hgv
                · rw [drop_end hk2, costGo] at hgo2
                  split at hgo2
                  · have := Option.some.inj hgo2
                    rw [unhide hu]; omega
                  · cases hgo2
              subst hut
              clear hgo hu
              go_wp2
              go_ret
              exact ⟨by rw [unhide HN] <;> rfl, hb⟩
end Go.Proofs.Ytpbccblenohhoaa
