/- Drawing a line of items; a line and a width; breaks. No condition. -/
import Derived.Test.YtlklkloadefihaaDrawW
import Derived.Test.YtlklkloadefihaaMli
import Derived.Test.YtlklkloadefihaaMf
namespace Go.Proofs.Ytlklkloadefihaa
open Go.RowKit
set_option linter.unusedVariables false

def IsInt (v : Value) : Prop := ∃ x : Int, v = .int .i64 x
section ops
variable {ts : List Ty} {w0 : World} {g m : Nat} {ops : Array Oper} {A : (Nat → Value) → Act} {i : Nat} {o : Oper}
theorem ob_idxs {t el : TypeId} {y z : Operand} {n c b off : Nat} {p : Value → Prop} {hi' : Int} (j : Nat) (ho : o.op = .indexAddr t y z) (hg : o.guard = none)
    (e : ∀ v, (A v).eval y = v j) (hd : hasDep .any o j = true) (hj : ts.getD j .any = .is (.slice (some ⟨b, off, none⟩) n c)) (hx : Opd ts g A o z (IsI 0 hi')) (hn : hi' < n) (hbg : b ≠ g) (hbl : b < w0.heap.size)
    (hcs : ∀ q, q < n → ∃ u, w0.cell? ⟨b, off + q, none⟩ = some u ∧ p u)
    (hu : Try.prog.underlying t = some (.slice el)) (hsz : (Try.prog.info? el).map (·.size) = some 1) (hi : ts.getD i .any = .elem p) : Ob ts w0 g m ops A i o :=
  ob_run hg fun v k w _ hJ hdep => by
    have hv : v j = .slice (some ⟨b, off, none⟩) n c := dep_ok hdep j hd hj
    obtain ⟨x, hx1, hx2, hx3⟩ := hx.out v w hdep
    obtain ⟨q, rfl⟩ := Int.eq_ofNat_of_zero_le hx2
    obtain ⟨u, hu1, hu2⟩ := hcs q (by omega)
    refine ⟨.pointer (some ⟨b, off + q, none⟩), w, ?_, ?_, hJ.up, grefl _ _⟩
    · unfold execOp
      simp only [ho, e, hv, hx1]
      cases hie : Try.prog.info? el with
      | none => simp [hie] at hsz
      | some ie =>
        simp only [hie, Option.map_some, Option.some.injEq] at hsz
        simp [Instr.indexAt, run_underlying hu, asIntOf, sizeOf, typeInfo, hie, hsz, show q < n by omega, add_lit']
    · show Ty.ok _ _ _ _
      rw [hi]
      exact ⟨b, off + q, u, rfl, hbg, Nat.lt_of_lt_of_le hbl hJ.2.size, by rw [World.cell?_of_block (hJ.2.block b hbl (by simpa using hbg))]; exact hu1, hu2⟩
theorem ob_len {y : Operand} {t el : TypeId} {B : Option Addr} {n c : Nat} (hu : Try.prog.underlying t = some (.slice el)) (j : Nat) (ho : o.op = .call { callee := .builtin .len, args := #[y], argTypes := #[t] }) (hg : o.guard = none)
    (e : ∀ v, (A v).eval y = v j) (hd : hasDep .any o j = true) (hj : ts.getD j .any = .is (.slice B n c)) (hi : ts.getD i .any = .val (IsI n n)) : Ob ts w0 g m ops A i o :=
  ob_run hg fun v k w _ hJ hdep => by
    have hv : v j = .slice B n c := dep_ok hdep j hd hj
    refine ⟨.int .i64 n, w, ?_, by show Ty.ok _ _ _ _; rw [hi]; exact ⟨_, rfl, by omega, by omega⟩, hJ.up, grefl _ _⟩
    unfold execOp
    simp only [ho, resolve, List.map_toArray, List.map_cons, List.map_nil, e, hv]
    simp [go_sem, Builtin.len_, run_underlying hu]
theorem ob_addI {y z : Operand} {tz : TypeId} (ho : o.op = .binOp .add 3 y z tz) (hg : o.guard = none) (h1 : Opd ts g A o y IsInt) (h2 : Opd ts g A o z IsInt) (hi : ts.getD i .any = .val IsInt) : Ob ts w0 g m ops A i o :=
  ob_run hg fun v k w _ hJ hdep => by
    obtain ⟨x, e1⟩ := h1.out v w hdep
    obtain ⟨q, e2⟩ := h2.out v w hdep
    refine ⟨.int .i64 (IntKind.i64.wrap (x + q)), w, ?_, by show Ty.ok _ _ _ _; rw [hi]; exact ⟨_, rfl⟩, hJ.up, grefl _ _⟩
    unfold execOp
    simp only [ho, e1, e2]
    simp [go_sem]
theorem ob_subI {y z : Operand} {tz : TypeId} (ho : o.op = .binOp .sub 3 y z tz) (hg : o.guard = none) (h1 : Opd ts g A o y IsInt) (h2 : Opd ts g A o z IsInt) (hi : ts.getD i .any = .val IsInt) : Ob ts w0 g m ops A i o :=
  ob_run hg fun v k w _ hJ hdep => by
    obtain ⟨x, e1⟩ := h1.out v w hdep
    obtain ⟨q, e2⟩ := h2.out v w hdep
    refine ⟨.int .i64 (IntKind.i64.wrap (x - q)), w, ?_, by show Ty.ok _ _ _ _; rw [hi]; exact ⟨_, rfl⟩, hJ.up, grefl _ _⟩
    unfold execOp
    simp only [ho, e1, e2]
    simp [go_sem]
theorem ob_minI {y z : Operand} {aty : Array TypeId} (ho : o.op = .call { callee := .builtin .min, args := #[y, z], argTypes := aty }) (hg : o.guard = none) (h1 : Opd ts g A o y IsInt) (h2 : Opd ts g A o z IsInt) (hi : ts.getD i .any = .val IsInt) : Ob ts w0 g m ops A i o :=
  ob_run hg fun v k w _ hJ hdep => by
    obtain ⟨x, e1⟩ := h1.out v w hdep
    obtain ⟨q, e2⟩ := h2.out v w hdep
    refine ⟨.int .i64 (min x q), w, ?_, by show Ty.ok _ _ _ _; rw [hi]; exact ⟨_, rfl⟩, hJ.up, grefl _ _⟩
    unfold execOp
    simp only [ho, resolve, List.map_toArray, List.map_cons, List.map_nil, e1, e2]
    simp [go_sem]
    try (simp only [Int.min_def]; split <;> first | rfl | omega | (split <;> omega))
theorem ob_maxI {y z : Operand} {aty : Array TypeId} (ho : o.op = .call { callee := .builtin .max, args := #[y, z], argTypes := aty }) (hg : o.guard = none) (h1 : Opd ts g A o y IsInt) (h2 : Opd ts g A o z IsInt) (hi : ts.getD i .any = .val IsInt) : Ob ts w0 g m ops A i o :=
  ob_run hg fun v k w _ hJ hdep => by
    obtain ⟨x, e1⟩ := h1.out v w hdep
    obtain ⟨q, e2⟩ := h2.out v w hdep
    refine ⟨.int .i64 (max x q), w, ?_, by show Ty.ok _ _ _ _; rw [hi]; exact ⟨_, rfl⟩, hJ.up, grefl _ _⟩
    unfold execOp
    simp only [ho, resolve, List.map_toArray, List.map_cons, List.map_nil, e1, e2]
    simp [go_sem]
    try (simp only [Int.max_def]; split <;> first | rfl | omega | (split <;> omega))
theorem opd_int {y : Operand} {lo hi : Int} (h : Opd ts g A o y (IsI lo hi)) : Opd ts g A o y IsInt := ⟨fun v w hd => by
  obtain ⟨x, e, _⟩ := h.out v w hd
  exact ⟨x, e⟩⟩
/-- The width of a glue that the call made. -/
theorem ob_glw {y : Operand} {G : Nat} {u : Value} (ho : o.op = .fieldAddr 29 y 0) (hg : o.guard = none) (e : ∀ v, (A v).eval y = .pointer (some ⟨G, 0, none⟩)) (hbg : G ≠ g) (hbl : G < w0.heap.size)
    (hc : w0.cell? ⟨G, 0, none⟩ = some u) (hp : IsInt u) (hi : ts.getD i .any = .elem IsInt) : Ob ts w0 g m ops A i o :=
  ob_run hg fun v k w _ hJ hdep => by
    refine ⟨.pointer (some ⟨G, 0, none⟩), w, ?_, ?_, hJ.up, grefl _ _⟩
    · unfold execOp
      simp only [ho, e]
      simp [go_sem]
    · show Ty.ok _ _ _ _
      rw [hi]
      exact ⟨G, 0, u, rfl, hbg, Nat.lt_of_lt_of_le hbl hJ.2.size, by rw [World.cell?_of_block (hJ.2.block G hbl (by simpa using hbg))]; exact hc, hp⟩
theorem ld_isInt (w : World) (a : Addr) (u : Value) (h : w.cell? a = some u) (hu : IsInt u) : (Instr.loadAt 3 (.pointer (some a))).run Try.prog w = .ok u w := by
  obtain ⟨x, rfl⟩ := hu
  simp [go_sem, h]
end ops
theorem results_tmp4 {fn : Func} {t u v x : Tmp} (h : fn.results = #[.tmp t, .tmp u, .tmp v, .tmp x]) (tmps : Array Value) (P : Program) (w : World) :
    (results fn tmps).run P w = .ok (.tuple #[tmps.getD t undef, tmps.getD u undef, tmps.getD v undef, tmps.getD x undef]) w := by
  simp [results, h]
theorem OwnI.one (w : World) (x : Int) : OwnI (w.alloc (.cells #[.int .i64 x] 3)) w.heap.size (some ⟨w.heap.size, 0, none⟩) 1 [x] :=
  ⟨by simp, .inr ⟨w.heap.size, 1, #[.int .i64 x], rfl, Nat.le_refl _, heap_alloc_new w _, by simp, by decide, rfl, by simp⟩⟩
set_option maxRecDepth 100000 in
set_option maxHeartbeats 3200000 in
theorem r_ends (g m : Nat) (A : Option Addr) (c : Nat) (rs : List Item) (w0 w : World) (O : OwnT w w0.heap.size A c rs) (hgl : g < w0.heap.size) (h : Rdr w g m) (hm : m ≤ 800000) (hl : rs.length ≤ 70) :
    Calls Try.prog 41 #[.pointer (some ⟨g, 0, none⟩), .slice A rs.length c] w fun e w' => ∃ a t : Int, e = .returned (.tuple #[.int .i64 a, .int .i64 t]) ∧ Rdr w' g (m + 20) ∧ w.grownBy w' (some g) := by
  have hbd := O.at_.bd
  have D0 := DSt.begin_ h
  have D := D0.alloc (.cells #[.int .i64 (-1)] 3)
  have I := OwnI.one w (-1)
  clear D0 h
  go_enter Try.func41, Try.ntmps41
  go_wp2_with fail
  go_loopw [6, 7] (fun v i wr => ∃ (k : Nat) (A' : Option Addr) (c' : Nat) (es : List Int), k ≤ rs.length ∧ i = .int .i64 k ∧ v = .slice A' es.length c' ∧ 1 ≤ es.length ∧ es.length ≤ k + 1 ∧ OwnI wr w.heap.size A' c' es ∧ DSt w g m wr) (fun _ i _ => rs.length - (intOf i).toNat)
  case atStart => exact ⟨0, _, _, [-1], Nat.zero_le _, rfl, rfl, by simp, by simp, I, D⟩
  case round =>
    clear I D
    obtain ⟨k, A', c', es, hk, rfl, rfl, he1, he2, I, D⟩ := hrel
    by_cases hlt : k < rs.length
    · have O2 := O.pick D.gr hgl
      go_wp2_with fail
      refine (c_mayBreak' A _ c rs k _ O2.at_ hlt).mono ?_
      rintro e w1 ⟨b, rfl, hb⟩
      replace I := I.next hb
      replace D := D.next hb
      clear hb O2
      have hgs := D.gr.size
      cases b
      · go_wp2
        go_roundw
        case rel => exact ⟨k + 1, A', c', es, by omega, by go_num, rfl, he1, by omega, I, D⟩
        case measure => simp [intOf]; omega
      · go_wp2_with (at_builtin; refine wpList_push_I (w0 := w) (k : Int) rfl rfl I rfl rfl (by omega) hgs ?_; intro A6 c6 w6 I6 hg6 hpre)
        replace D := (D.alloc (.cells #[.int .i64 (k : Int)] 3)).push hpre hg6
        clear hg6 hpre I hgs
        go_wp2
        go_roundw
        case rel => exact ⟨k + 1, A6, c6, es ++ [(k : Int)], by omega, by go_num, by simp, by simp, by simp; omega, I6, D⟩
        case measure => simp [intOf]; omega
    · go_wp2_with fail
      refine (r_odd g _ 9 _ D.rd (by omega) (by omega)).mono ?_
      rintro e w3 ⟨b3, rfl, _, hr, hg⟩
      replace I := I.pick hg D.lt
      replace D := D.pick hr hg
      clear hr hg
      cases b3
      · go_wp2_with fail
        refine (r_pick g _ _ _ D.rd (by omega)).mono ?_
        rintro e w4 ⟨x4, rfl, hx4, hr, hg⟩
        replace I := I.pick hg D.lt
        replace D := D.pick hr hg
        clear hr hg
        have hx : x4 < es.length := by omega
        have hbdI := I.at_.bd
        obtain ⟨bI, oI, v1, rfl, hbI, hv1, hc1⟩ := I.at_.at_ hx
        have hxi : (x4 : Int) < (es.length : Int) := by omega
        clear hx4 hv1
        go_wp2_with fail
        have hbg : bI ≠ g := by
          have := World.ownsRow.lt I bI rfl
          have := D.lt
          omega
        have hcs : ∀ q, q < es.length → ∃ u, w4.cell? ⟨bI, oI + q, none⟩ = some u ∧ IsInt u := fun q hq => by
          obtain ⟨b', o', v', e', _, _, h'⟩ := I.at_.at_ hq
          simp only [Option.some.injEq, Addr.mk.injEq] at e'
          obtain ⟨rfl, rfl, _⟩ := e'
          exact ⟨_, h', _, rfl⟩
        refine wp_region_rd (g := g) (m := m + 1 + 1) [.is (.slice (some ⟨bI, oI, none⟩) es.length c'), .is (.int .i64 (x4 : Int)), .elem IsInt, .val IsInt, .is (.slice (some ⟨bI, oI, none⟩) es.length c'), .is (.slice (some ⟨bI, oI, none⟩) es.length c'), .val (IsI (es.length : Int) (es.length : Int)), .val (IsI ((es.length : Int) - 1) ((es.length : Int) - 1)), .is (.int .i64 (x4 : Int)), .val (IsI ((x4 : Int) + 1) ((x4 : Int) + 1)), .is (.pointer (some ⟨g, 0, none⟩)), .val (IsI 0 3), .val (IsI ((x4 : Int) + 1) ((x4 : Int) + 4)), .val (IsI 0 ((es.length : Int) - 1)), .elem IsInt, .val IsInt, .val IsInt, .val IsInt] (by kernel_rfl) (by kernel_rfl) D.rd ?_ ?_
        · simp only [Obl]
          refine ⟨?_, ?_, ?_, ?_, ?_, ?_, ?_, ?_, ?_, ?_, ?_, ?_, ?_, ?_, ?_, ?_, ?_, ?_, trivial⟩
          · exact ob_is (.inl rfl) rfl rfl (fun v => by kernel_rfl)
          · exact ob_is (.inl rfl) rfl rfl (fun v => by kernel_rfl)
          · exact ob_idxs (hi' := (x4 : Int)) 0 rfl rfl (fun v => by kernel_rfl) (by kernel_rfl) rfl (opd_wide (opd_is 1 (.int .i64 (x4 : Int)) (fun v => by kernel_rfl) (by kernel_rfl) rfl ⟨(x4 : Int), rfl, Int.le_refl _, Int.le_refl _⟩) (by omega) (by omega)) hxi hbg hbI hcs Try.underlying34 (by kernel_rfl) rfl
          · exact ob_load 2 rfl rfl (fun v => by kernel_rfl) (by kernel_rfl) rfl ld_isInt rfl
          · exact ob_is (.inl rfl) rfl rfl (fun v => by kernel_rfl)
          · exact ob_is (.inl rfl) rfl rfl (fun v => by kernel_rfl)
          · exact ob_len Try.underlying34 5 rfl rfl (fun v => by kernel_rfl) (by kernel_rfl) rfl rfl
          · exact ob_sub rfl rfl (opd_dep 6 (fun v => by kernel_rfl) (by kernel_rfl) rfl) (opd_const (.int .i64 1) (fun v => by kernel_rfl) ⟨1, rfl, Int.le_refl _, Int.le_refl _⟩) (by omega) (by omega) (by omega) (by omega) rfl
          · exact ob_is (.inl rfl) rfl rfl (fun v => by kernel_rfl)
          · exact ob_add (a := (x4 : Int)) (b := (x4 : Int)) rfl rfl (opd_wide (opd_is 8 (.int .i64 (x4 : Int)) (fun v => by kernel_rfl) (by kernel_rfl) rfl ⟨(x4 : Int), rfl, Int.le_refl _, Int.le_refl _⟩) (by omega) (by omega)) (opd_const (.int .i64 1) (fun v => by kernel_rfl) ⟨1, rfl, Int.le_refl _, Int.le_refl _⟩) (by omega) (by omega) (by omega) (by omega) rfl
          · exact ob_is (.inl rfl) rfl rfl (fun v => by kernel_rfl)
          · exact ob_pick 10 rfl rfl (fun v => by kernel_rfl) (by kernel_rfl) rfl rfl (by omega) (by omega) (by simp <;> omega)
          · exact ob_add rfl rfl (opd_dep 9 (fun v => by kernel_rfl) (by kernel_rfl) rfl) (opd_dep 11 (fun v => by kernel_rfl) (by kernel_rfl) rfl) (by omega) (by omega) (by omega) (by omega) rfl
          · exact ob_min rfl rfl (opd_dep 7 (fun v => by kernel_rfl) (by kernel_rfl) rfl) (opd_dep 12 (fun v => by kernel_rfl) (by kernel_rfl) rfl) (by omega) (by omega) rfl
          · exact ob_idxs (hi' := (es.length : Int) - 1) 4 rfl rfl (fun v => by kernel_rfl) (by kernel_rfl) rfl (opd_dep 13 (fun v => by kernel_rfl) (by kernel_rfl) rfl) (by omega) hbg hbI hcs Try.underlying34 (by kernel_rfl) rfl
          · exact ob_load 14 rfl rfl (fun v => by kernel_rfl) (by kernel_rfl) rfl ld_isInt rfl
          · exact ob_cp 3 (.inr rfl) rfl (fun v => by kernel_rfl) (by kernel_rfl) rfl
          · exact ob_cp 15 (.inr rfl) rfl (fun v => by kernel_rfl) (by kernel_rfl) rfl
        · intro v wr2 hJ hT
          have hrr : Rdr wr2 g (m + 1 + 1 + 18) := hJ.1
          have hgg : World.grownBy _ wr2 (some g) := hJ.2
          obtain ⟨ya, ea⟩ : IsInt (v 16) := hT 16 (by decide)
          obtain ⟨yb, eb⟩ : IsInt (v 17) := hT 17 (by decide)
          clear hT hJ
          simp only [putL, Act.put, List.setIfInBounds_toArray, List.set_cons_succ, List.set_cons_zero, ea, eb]
          clear ea eb
          go_wp2
          go_ret2
          exact ⟨ya, yb, rfl, hrr.mono (by omega), gtrans D.gr hgg⟩
      · go_wp2_with fail
        refine (r_pick g _ _ _ D.rd (by omega)).mono ?_
        rintro e w4 ⟨x4, rfl, hx4, hr, hg⟩
        replace D := D.pick hr hg
        clear hr hg
        go_wp2_with fail
        refine (r_pick g _ _ _ D.rd (by omega)).mono ?_
        rintro e w5 ⟨x5, rfl, hx5, hr, hg⟩
        replace D := D.pick hr hg
        clear hr hg
        go_wp2
        go_ret2
        exact ⟨_, _, rfl, D.rd.mono (by omega), D.gr⟩
set_option maxRecDepth 100000 in
set_option maxHeartbeats 3200000 in
theorem c_drawLineBadness (A : Option Addr) (n c : Nat) (xs : List Int) (w : World) (h : CodeAt w A n c xs) :
    Calls Try.prog 13 #[.slice A n c] w fun e w' => ∃ (A : Option Addr) (c : Nat) (rs : List Item) (a t y : Int), e = .returned (.tuple #[.slice A rs.length c, .int .i64 a, .int .i64 t, .int .i64 y]) ∧ rs.length ≤ 70 ∧ OwnT w' w.heap.size A c rs ∧ Below w.heap.size w w' := by
  go_enter Try.func13, Try.ntmps13
  go_wp2_with fail
  refine (r_open A n c xs _ h).mono ?_
  rintro e w1 ⟨g, rfl, hg, hr, hb⟩
  go_wp2_with fail
  refine (r_items g _ 12 _ hr (by omega) (by omega)).mono ?_
  rintro e w2 ⟨A2, c2, rs, rfl, hl, O, hr2, hg2⟩
  have hgl := hr.lt
  have hbd := O.at_.bd
  go_wp2_with fail
  refine (r_ends g _ A2 c2 rs w1 _ O hgl hr2 (by omega) hl).mono ?_
  rintro e w3 ⟨a, t, rfl, hr3, hg3⟩
  have O3 := O.pick hg3 hgl
  have G3 := gtrans hg2 hg3
  clear O hg2 hg3 hr2
  go_wp2_with fail
  refine (c_lineGlue' A2 _ c2 rs a t _ O3.at_).mono ?_
  rintro e w4 ⟨he, hb4⟩
  obtain ⟨G, HG⟩ : ∃ G, Hid (glOf rs a t = G) := ⟨_, rfl⟩
  obtain ⟨ok, HK⟩ : ∃ ok, Hid (okL rs a t = ok) := ⟨_, rfl⟩
  rw [unhide HG, unhide HK] at he
  obtain ⟨gw, gst, gsh, god⟩ := G
  subst he
  clear HG HK
  have O4 := O3.next hb4
  have hr4 := hr3.next hb4
  have G4 := gtrans G3 (gof hb4 (row := some g))
  clear O3 hr3 G3 hb4 hr
  have hs := hb.size
  have q := Blk.new w4 29 #[.int .i64 gw, .int .i64 gst, .int .i64 gsh, .int .i64 god]
  have hlt4 := hr4.lt
  have O5 : OwnT _ w1.heap.size A2 c2 rs := World.ownsRow.alloc O4 (.cells #[.int .i64 gw, .int .i64 gst, .int .i64 gsh, .int .i64 god] 29)
  have hr5 := hr4.alloc (.cells #[.int .i64 gw, .int .i64 gst, .int .i64 gsh, .int .i64 god] 29)
  have G5 := galloc G4 (.cells #[.int .i64 gw, .int .i64 gst, .int .i64 gsh, .int .i64 god] 29)
  clear O4 hr4 G4
  cases ok
  · go_wp2_with fail
    refine (r_width g _ _ hr5 (by omega)).mono ?_
    rintro e w6 ⟨y, rfl, hr6, hg6⟩
    have O6 := O5.pick hg6 hgl
    go_wp2
    (try simp only [Exit.inBlock, Exit.then])
    refine bodyPost_ret (results_tmp4 rfl _ _ _) rfl ?_
    exact ⟨_, _, rs, a, t, y, rfl, hl, own_base O6 hs, r_fresh hg hb (gtrans G5 hg6)⟩
  · go_wp2_with fail
    refine (r_pick g _ _ _ hr5 (by omega)).mono ?_
    rintro e w6 ⟨x6, rfl, hx6, hr6, hg6⟩
    have O6 := O5.pick hg6 hgl
    have G6 := gtrans G5 hg6
    have q6 := q.grown hg6 (by simp; omega)
    clear O5 G5 hg6 hr5 q
    by_cases h0 : x6 = 0
    · have hz : ((x6 : Int) == 0) = true := by simp [h0]
      have k0 := q6.cell 0
      have hG1 : w4.heap.size ≠ g := by omega
      have hG2 : w4.heap.size < w6.heap.size := q6.lt
      go_wp2_with fail
      refine wp_region_rd (g := g) (m := _) [.is (.slice A2 rs.length c2), .is (.int .i64 a), .is (.int .i64 t), .elem IsInt, .val IsInt, .is (.pointer (some ⟨g, 0, none⟩)), .val (IsI 0 11), .val IsInt, .val IsInt, .val IsInt, .val IsInt, .is (.slice A2 rs.length c2), .is (.int .i64 a), .is (.int .i64 t), .val IsInt] (by kernel_rfl) (by kernel_rfl) hr6 ?_ ?_
      · simp only [Obl]
        refine ⟨?_, ?_, ?_, ?_, ?_, ?_, ?_, ?_, ?_, ?_, ?_, ?_, ?_, ?_, ?_, trivial⟩
        · exact ob_is (.inl rfl) rfl rfl (fun v => by kernel_rfl)
        · exact ob_is (.inl rfl) rfl rfl (fun v => by kernel_rfl)
        · exact ob_is (.inl rfl) rfl rfl (fun v => by kernel_rfl)
        · exact ob_glw (G := w4.heap.size) rfl rfl (fun v => by kernel_rfl) hG1 hG2 k0 ⟨gw, rfl⟩ rfl
        · exact ob_load 3 rfl rfl (fun v => by kernel_rfl) (by kernel_rfl) rfl ld_isInt rfl
        · exact ob_is (.inl rfl) rfl rfl (fun v => by kernel_rfl)
        · exact ob_pick 5 rfl rfl (fun v => by kernel_rfl) (by kernel_rfl) rfl rfl (by omega) (by omega) (by simp <;> omega)
        · exact ob_addI rfl rfl (opd_dep 4 (fun v => by kernel_rfl) (by kernel_rfl) rfl) (opd_int (opd_dep 6 (fun v => by kernel_rfl) (by kernel_rfl) rfl)) rfl
        · exact ob_subI rfl rfl (opd_dep 7 (fun v => by kernel_rfl) (by kernel_rfl) rfl) (opd_const (.int .i64 6) (fun v => by kernel_rfl) ⟨_, rfl⟩) rfl
        · exact ob_minI rfl rfl (opd_const (.int .i64 1000) (fun v => by kernel_rfl) ⟨_, rfl⟩) (opd_dep 8 (fun v => by kernel_rfl) (by kernel_rfl) rfl) rfl
        · exact ob_maxI rfl rfl (opd_const (.int .i64 0) (fun v => by kernel_rfl) ⟨_, rfl⟩) (opd_dep 9 (fun v => by kernel_rfl) (by kernel_rfl) rfl) rfl
        · exact ob_cp 0 (.inr rfl) rfl (fun v => by kernel_rfl) (by kernel_rfl) rfl
        · exact ob_cp 1 (.inr rfl) rfl (fun v => by kernel_rfl) (by kernel_rfl) rfl
        · exact ob_cp 2 (.inr rfl) rfl (fun v => by kernel_rfl) (by kernel_rfl) rfl
        · exact ob_cp 10 (.inr rfl) rfl (fun v => by kernel_rfl) (by kernel_rfl) rfl
      · intro v wr2 hJ hT
        have hgg : World.grownBy _ wr2 (some g) := hJ.2
        have e11 : v 11 = _ := hT 11 (by decide)
        have e12 : v 12 = _ := hT 12 (by decide)
        have e13 : v 13 = _ := hT 13 (by decide)
        obtain ⟨y, ey⟩ : IsInt (v 14) := hT 14 (by decide)
        clear hT hJ
        simp only [putL, Act.put, List.setIfInBounds_toArray, List.set_cons_succ, List.set_cons_zero, e11, e12, e13, ey]
        clear e11 e12 e13 ey
        have O7 := O6.pick hgg hgl
        go_wp2
        (try simp only [Exit.inBlock, Exit.then])
        refine bodyPost_ret (results_tmp4 rfl _ _ _) rfl ?_
        exact ⟨_, _, rs, a, t, y, rfl, hl, own_base O7 hs, r_fresh hg hb (gtrans G6 hgg)⟩
    · have hz : ((x6 : Int) == 0) = false := by simp; omega
      go_wp2_with fail
      refine (r_width g _ _ hr6 (by omega)).mono ?_
      rintro e w7 ⟨y, rfl, hr7, hg7⟩
      have O7 := O6.pick hg7 hgl
      go_wp2
      (try simp only [Exit.inBlock, Exit.then])
      refine bodyPost_ret (results_tmp4 rfl _ _ _) rfl ?_
      exact ⟨_, _, rs, a, t, y, rfl, hl, own_base O7 hs, r_fresh hg hb (gtrans G6 hg7)⟩
set_option maxHeartbeats 400000 in
theorem c_drawSetLine (A : Option Addr) (n c : Nat) (xs : List Int) (w : World) (h : CodeAt w A n c xs) :
    Calls Try.prog 30 #[.slice A n c] w fun e w' => ∃ (A : Option Addr) (c : Nat) (rs : List Item) (a t y : Int), e = .returned (.tuple #[.slice A rs.length c, .int .i64 a, .int .i64 t, .int .i64 y]) ∧ rs.length ≤ 70 ∧ OwnT w' w.heap.size A c rs ∧ Below w.heap.size w w' := by
  go_enter Try.func30, Try.ntmps30
  go_wp2_with fail
  refine (c_drawLineBadness A n c xs _ h).mono ?_
  rintro e w1 ⟨A1, c1, rs, a, t, y, rfl, hl, O, B⟩
  go_wp2
  (try simp only [Exit.inBlock, Exit.then])
  refine bodyPost_ret (results_tmp4 rfl _ _ _) rfl ?_
  exact ⟨_, _, rs, a, t, y, rfl, hl, O, B⟩
set_option maxHeartbeats 400000 in
theorem c_drawLineIsFull (A : Option Addr) (n c : Nat) (xs : List Int) (w : World) (h : CodeAt w A n c xs) :
    Calls Try.prog 22 #[.slice A n c] w fun e w' => ∃ (A : Option Addr) (c : Nat) (rs : List Item) (a t y : Int), e = .returned (.tuple #[.slice A rs.length c, .int .i64 a, .int .i64 t, .int .i64 y]) ∧ rs.length ≤ 70 ∧ OwnT w' w.heap.size A c rs ∧ Below w.heap.size w w' := by
  go_enter Try.func22, Try.ntmps22
  go_wp2_with fail
  refine (c_drawLineBadness A n c xs _ h).mono ?_
  rintro e w1 ⟨A1, c1, rs, a, t, y, rfl, hl, O, B⟩
  go_wp2
  (try simp only [Exit.inBlock, Exit.then])
  refine bodyPost_ret (results_tmp4 rfl _ _ _) rfl ?_
  exact ⟨_, _, rs, a, t, y, rfl, hl, O, B⟩
set_option maxRecDepth 100000 in
set_option maxHeartbeats 3200000 in
theorem c_drawBreaksCost (A : Option Addr) (n c : Nat) (xs : List Int) (w : World) (h : CodeAt w A n c xs) :
    Calls Try.prog 33 #[.slice A n c] w fun e w' => ∃ (A : Option Addr) (c : Nat) (rs : List Item) (y z : Int) (A2 : Option Addr) (c2 : Nat) (es : List Int), e = .returned (.tuple #[.slice A rs.length c, .int .i64 y, .int .i64 z, .slice A2 es.length c2]) ∧ rs.length ≤ 70 ∧ es.length ≤ 70 ∧ OwnT w' w.heap.size A c rs ∧ OwnI w' w.heap.size A2 c2 es ∧ Below w.heap.size w w' := by
  go_enter Try.func33, Try.ntmps33
  go_wp2_with fail
  refine (r_open A n c xs _ h).mono ?_
  rintro e w1 ⟨g, rfl, hg, hr, hb⟩
  have D := DSt.begin_ hr
  clear hr
  go_wp2_with fail
  refine (r_items g _ 12 _ D.rd (by omega) (by omega)).mono ?_
  rintro e w2 ⟨A2, c2, rs, rfl, hl, O, hr2, hg2⟩
  replace D := D.pick hr2 hg2
  clear hr2 hg2
  have hbd := O.at_.bd
  go_wp2_with fail
  refine (r_width g _ _ D.rd (by omega)).mono ?_
  rintro e w3 ⟨y, rfl, hr3, hg3⟩
  replace O := O.pick hg3 D.lt
  replace D := D.pick hr3 hg3
  clear hr3 hg3
  go_wp2_with fail
  refine (r_most g _ _ D.rd (by omega)).mono ?_
  rintro e w4 ⟨z, rfl, hr4, hg4⟩
  replace O := O.pick hg4 D.lt
  replace D := D.pick hr4 hg4
  clear hr4 hg4
  obtain ⟨P, HP⟩ : ∃ P, Hid (firstBreaks rs y 10000 = P) := ⟨_, rfl⟩
  have hPl := firstBreaks_len rs y 10000
  rw [unhide HP] at hPl
  go_wp2_with fail
  refine (c_firstBreaks' A2 _ c2 rs y 10000 _ O.at_).mono ?_
  rw [unhide HP]
  rintro e w5 ⟨A5, c5, rfl, X, hb5⟩
  have hs4 := D.gr.size
  have hs1 := hb.size
  have X5 : OwnI w5 w1.heap.size A5 c5 P := own_base X hs4
  replace O := O.next hb5
  replace D := D.next hb5
  clear HP hb5 X
  go_wp2_with fail
  refine (r_odd g _ 3 _ D.rd (by omega) (by omega)).mono ?_
  rintro e w6 ⟨b6, rfl, _, hr6, hg6⟩
  replace O := O.pick hg6 D.lt
  replace X5 := X5.pick hg6 D.lt
  replace D := D.pick hr6 hg6
  clear hr6 hg6
  cases b6
  · go_wp2
    (try simp only [Exit.inBlock, Exit.then])
    refine bodyPost_ret (results_tmp4 rfl _ _ _) rfl ?_
    exact ⟨_, _, rs, y, z, _, _, P, rfl, hl, by omega, own_base O hs1, own_base X5 hs1, r_fresh hg hb D.gr⟩
  · clear X5
    have hs6 := D.gr.size
    have I : OwnI (w6.alloc (.cells #[] 3)) w6.heap.size (some ⟨w6.heap.size, 0, none⟩) 0 [] := World.ownsRow_made w6 #[] 0 (Nat.le_refl _) (Nat.zero_le _) rfl
    have E0 := DSt.begin_ D.rd
    have E := E0.alloc (.cells #[] 3)
    clear hs4 hPl E0
    go_wp2_with fail
    go_loopw [10, 12] (fun v i wr => ∃ (j : Nat) (AI : Option Addr) (cI : Nat) (es : List Int), j ≤ rs.length ∧ es.length ≤ j ∧ i = .int .i64 j ∧ v = .slice AI es.length cI ∧ OwnI wr w6.heap.size AI cI es ∧ DSt w6 g (2000 + j) wr) (fun _ i _ => rs.length - (intOf i).toNat)
    case atStart => exact ⟨0, _, _, [], Nat.zero_le _, Nat.le_refl _, rfl, rfl, I, E.more (by omega)⟩
    case round =>
      clear I E
      obtain ⟨j, AI, cI, es, hj, hes, rfl, rfl, I, E⟩ := hrel
      by_cases hlt : j < rs.length
      · have O2 := O.pick E.gr D.lt
        go_wp2_with fail
        refine (c_mayBreak' A2 _ c2 rs j _ O2.at_ hlt).mono ?_
        rintro e w7 ⟨b, rfl, hb7⟩
        replace I := I.next hb7
        replace E := E.next hb7
        clear hb7 O2
        have hgs := E.gr.size
        cases b
        · go_wp2
          go_roundw
          case rel => exact ⟨j + 1, AI, cI, es, by omega, by omega, by go_num, rfl, I, E.more (by omega)⟩
          case measure => simp [intOf]; omega
        · by_cases hje : j + 1 = rs.length
          · have hz : ((j : Int) == (rs.length : Int) - 1) = true := by simp; omega
            go_wp2_with (at_builtin; refine wpList_push_I (w0 := w6) (j : Int) rfl rfl I rfl rfl (by omega) hgs ?_; intro A6 c6 w6 I6 hg6 hpre)
            replace E := (E.alloc (.cells #[.int .i64 (j : Int)] 3)).push hpre hg6
            clear hg6 hpre I hgs
            go_wp2
            go_roundw
            case rel => exact ⟨j + 1, A6, c6, es ++ [(j : Int)], by omega, by simp; omega, by go_num, by simp, I6, E.more (by omega)⟩
            case measure => simp [intOf]; omega
          · have hz : ((j : Int) == (rs.length : Int) - 1) = false := by simp; omega
            go_wp2_with fail
            refine (r_pick g _ _ _ E.rd (by omega)).mono ?_
            rintro e w8 ⟨x8, rfl, hx8, hr8, hg8⟩
            replace I := I.pick hg8 E.lt
            replace E := E.pick hr8 hg8
            clear hr8 hg8 hgs
            have hgs := E.gr.size
            by_cases h8 : x8 = 0
            · have hz8 : ((x8 : Int) == 0) = true := by simp [h8]
              go_wp2_with (at_builtin; refine wpList_push_I (w0 := w6) (j : Int) rfl rfl I rfl rfl (by omega) hgs ?_; intro A6 c6 w6 I6 hg6 hpre)
              replace E := (E.alloc (.cells #[.int .i64 (j : Int)] 3)).push hpre hg6
              clear hg6 hpre I hgs
              go_wp2
              go_roundw
              case rel => exact ⟨j + 1, A6, c6, es ++ [(j : Int)], by omega, by simp; omega, by go_num, by simp, I6, E.more (by omega)⟩
              case measure => simp [intOf]; omega
            · have hz8 : ((x8 : Int) == 0) = false := by simp; omega
              go_wp2
              go_roundw
              case rel => exact ⟨j + 1, AI, cI, es, by omega, by omega, by go_num, rfl, I, E.more (by omega)⟩
              case measure => simp [intOf]; omega
      · have O2 := O.pick E.gr D.lt
        have hsE := E.gr.size
        go_wp2
        (try simp only [Exit.inBlock, Exit.then])
        refine bodyPost_ret (results_tmp4 rfl _ _ _) rfl ?_
        exact ⟨_, _, rs, y, z, _, _, es, rfl, hl, by omega, own_base O2 hs1, own_base I (by omega), r_fresh hg hb (gtrans D.gr E.gr)⟩
set_option maxHeartbeats 400000 in
theorem c_drawLineBadnesses (A : Option Addr) (n c : Nat) (xs : List Int) (w : World) (h : CodeAt w A n c xs) :
    Calls Try.prog 18 #[.slice A n c] w fun e w' => ∃ (A : Option Addr) (c : Nat) (rs : List Item) (y : Int) (A2 : Option Addr) (c2 : Nat) (es : List Int), e = .returned (.tuple #[.slice A rs.length c, .int .i64 y, .slice A2 es.length c2]) ∧ rs.length ≤ 70 ∧ es.length ≤ 70 ∧ OwnT w' w.heap.size A c rs ∧ OwnI w' w.heap.size A2 c2 es ∧ Below w.heap.size w w' := by
  go_enter Try.func18, Try.ntmps18
  go_wp2_with fail
  refine (c_drawBreaksCost A n c xs _ h).mono ?_
  rintro e w1 ⟨A1, c1, rs, y, z, A2, c2, es, rfl, hl, hl2, O, X, B⟩
  go_wp2
  go_ret3
  exact ⟨_, _, rs, y, _, _, es, rfl, hl, hl2, O, X, B⟩
end Go.Proofs.Ytlklkloadefihaa
