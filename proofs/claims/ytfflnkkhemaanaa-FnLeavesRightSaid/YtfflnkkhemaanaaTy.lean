/- Regions of a draw: what each operation leaves is a number between bounds, an array of such numbers, or an address of one. No condition. -/
import Derived.Test.YtfflnkkhemaanaaRegion
import Derived.Test.YtfflnkkhemaanaaDraw
import Derived.Great.BuildSlice
import Derived.IntWalk
namespace Go.Proofs.Ytfflnkkhemaanaa
open Go.RowKit
set_option linter.unusedVariables false

/-- A number between bounds. -/
def IsI (lo hi : Int) (v : Value) : Prop := ∃ x : Int, v = .int .i64 x ∧ lo ≤ x ∧ x ≤ hi
theorem IsI.mk {lo hi x : Int} (h1 : lo ≤ x) (h2 : x ≤ hi) : IsI lo hi (.int .i64 x) := ⟨x, rfl, h1, h2⟩
inductive Ty where
  | is (v : Value)
  | val (p : Value → Prop)
  | arr (n : Nat) (p : Value → Prop)
  | elem (p : Value → Prop)
  | any
def Ty.ok (g : Nat) : Ty → Value → World → Prop
  | .is u, v, _ => v = u
  | .val p, v, _ => p v
  | .arr n p, v, w => ∃ (b : Nat) (t : TypeId) (cs : Array Value), v = .slice (some ⟨b, 0, none⟩) n n ∧ b ≠ g ∧ Blk w b t cs ∧ ∀ i, i < n → ∃ u, cs[i]? = some u ∧ p u
  | .elem p, v, w => ∃ (b i : Nat) (u : Value), v = .pointer (some ⟨b, i, none⟩) ∧ b ≠ g ∧ b < w.heap.size ∧ w.cell? ⟨b, i, none⟩ = some u ∧ p u
  | .any, _, _ => True
theorem Ty.keep {g : Nat} {w w' : World} (hg : w.grownBy w' (some g)) : ∀ {t : Ty} {v : Value}, t.ok g v w → t.ok g v w'
  | .is _, _, h => h
  | .val _, _, h => h
  | .arr _ _, _, ⟨b, t, cs, hv, hb, hB, hc⟩ => ⟨b, t, cs, hv, hb, hB.grown hg (by simpa using hb), hc⟩
  | .elem _, _, ⟨b, i, x, hv, hb, hl, hc, hx⟩ => ⟨b, i, x, hv, hb, Nat.lt_of_lt_of_le hl hg.size, by rw [World.cell?_of_block (hg.block b hl (by simpa using hb))]; exact hc, hx⟩
  | .any, _, _ => trivial
/-- The reader in block g has read at most m + k times; nothing has turned since w0 but block g. -/
def RdJ (w0 : World) (g m : Nat) (k : Nat) (w : World) : Prop := Rdr w g (m + k) ∧ w0.grownBy w (some g)
theorem RdJ.up {w0 w : World} {g m k : Nat} (h : RdJ w0 g m k w) : RdJ w0 g m (k + 1) w := ⟨h.1.mono (by omega), h.2⟩
theorem RdJ.alloc {w0 w : World} {g m k : Nat} (h : RdJ w0 g m k w) (o : Obj) : RdJ w0 g m k (w.alloc o) := ⟨h.1.alloc o, galloc h.2 o⟩
theorem RdJ.zero {w : World} {g m : Nat} (h : Rdr w g m) : RdJ w g m 0 w.drew := ⟨h.drew, gdrew (grefl _ _)⟩
/-- A number drawn in such a region. -/
theorem j_pick {w0 w : World} {g m k : Nat} {N : Int} (h : RdJ w0 g m k w) (hm : m + k ≤ 1000000) (hN : 1 ≤ N) :
    Calls Try.prog 37 #[.pointer (some ⟨g, 0, none⟩), .int .i64 N] w fun e w' => ∃ x : Int, e = .returned (.int .i64 x) ∧ (0 ≤ x ∧ x ≤ N - 1) ∧ RdJ w0 g m (k + 1) w' ∧ w.grownBy w' (some g) :=
  (r_pick g (m + k) N w h.1 hm).mono fun e w' ⟨x, he, hx, hr, hg⟩ => ⟨x, he, by omega, ⟨hr, gtrans h.2 hg⟩, hg⟩
/-- The law at these types. -/
theorem wp_region_rd {id : Nat} {w : World} {l : List Oper} {a0 : Act} {Q : Exit → Act → World → Prop} {g m : Nat} (ts : List Ty) (hm : Try.prog.follows .mixedOrders = true) (hB : tyOK .any l.toArray = true) (hJ : Rdr w g m)
    (hob : Obl Try.prog .any l.toArray (fun i => (ts.getD i .any).ok g) (RdJ w g m) (fun w w' => w.grownBy w' (some g)) (fun v => putL l v 0 a0) l 0)
    (hend : ∀ v w', RdJ w g m l.length w' → AllT (fun i => (ts.getD i .any).ok g) v w' l.length → Q .normal (putL l v 0 a0) w') : (Code.region id l.toArray true).wp Try.prog Q a0 w :=
  wp_region_ty (fun i => (ts.getD i .any).ok g) (RdJ w g m) (fun w w' => w.grownBy w' (some g)) hm hB (fun _ _ h => h.up) (fun i _ _ _ hR h => Ty.keep (t := ts.getD i .any) hR h) (RdJ.zero hJ) hob hend

section ops
variable {ts : List Ty} {w0 : World} {g m : Nat} {ops : Array Oper} {A : (Nat → Value) → Act} {i : Nat} {o : Oper}
/-- What is to be shown of one operation of such a region. -/
abbrev Ob (ts : List Ty) (w0 : World) (g m : Nat) (ops : Array Oper) (A : (Nat → Value) → Act) (i : Nat) (o : Oper) : Prop :=
  OblOne Try.prog .any ops (fun i => (ts.getD i .any).ok g) (RdJ w0 g m) (fun w w' => w.grownBy w' (some g)) A i o
theorem dep_ok {v : Nat → Value} {w : World} (h : DepsOf .any (fun i => (ts.getD i .any).ok g) v w o) (j : Nat) (hd : hasDep .any o j = true) {t : Ty} (ht : ts.getD j .any = t) : t.ok g (v j) w := by
  subst ht; exact h j hd
/-- A number among the operands: a constant, or what an operation of the region has left. -/
structure Opd (ts : List Ty) (g : Nat) (A : (Nat → Value) → Act) (o : Oper) (y : Operand) (p : Value → Prop) : Prop where
  out : ∀ v w, DepsOf .any (fun i => (ts.getD i .any).ok g) v w o → p ((A v).eval y)
theorem opd_const {y : Operand} {p : Value → Prop} (u : Value) (e : ∀ v, (A v).eval y = u) (h : p u) : Opd ts g A o y p := ⟨fun v w _ => by rw [e]; exact h⟩
theorem opd_dep {y : Operand} {p : Value → Prop} (j : Nat) (e : ∀ v, (A v).eval y = v j) (hd : hasDep .any o j = true) (ht : ts.getD j .any = .val p) : Opd ts g A o y p := ⟨fun v w h => by
  rw [e]; exact dep_ok h j hd ht⟩
theorem opd_is {y : Operand} {p : Value → Prop} (j : Nat) (u : Value) (e : ∀ v, (A v).eval y = v j) (hd : hasDep .any o j = true) (ht : ts.getD j .any = .is u) (hp : p u) : Opd ts g A o y p := ⟨fun v w h => by
  rw [e, show v j = u from dep_ok h j hd ht]; exact hp⟩
theorem opd_wide {y : Operand} {lo hi lo' hi' : Int} (h : Opd ts g A o y (IsI lo hi)) (h1 : lo' ≤ lo) (h2 : hi ≤ hi') : Opd ts g A o y (IsI lo' hi') := ⟨fun v w hd => by
  obtain ⟨x, e, a, b⟩ := h.out v w hd
  exact ⟨x, e, by omega, by omega⟩⟩
theorem ob_is {y : Operand} {u : Value} (ho : o.op = .move y ∨ o.op = .assign y) (hg : o.guard = none) (hi : ts.getD i .any = .is u) (e : ∀ v, (A v).eval y = u) : Ob ts w0 g m ops A i o :=
  ob_run hg fun v k w _ hJ _ => ⟨u, w, by rcases ho with ho | ho <;> (unfold execOp; simp only [ho, e]; rfl), by show Ty.ok _ _ _ _; rw [hi]; exact rfl, hJ.up, grefl _ _⟩
theorem ob_cp {y : Operand} (j : Nat) (ho : o.op = .move y ∨ o.op = .assign y) (hg : o.guard = none) (e : ∀ v, (A v).eval y = v j) (hd : hasDep .any o j = true) (hi : ts.getD i .any = ts.getD j .any) : Ob ts w0 g m ops A i o :=
  ob_run hg fun v k w _ hJ hdep => ⟨v j, w, by rcases ho with ho | ho <;> (unfold execOp; simp only [ho, e]; rfl), by show Ty.ok _ _ _ _; rw [hi]; exact hdep j hd, hJ.up, grefl _ _⟩
theorem ob_val {y : Operand} {p : Value → Prop} (ho : o.op = .move y ∨ o.op = .assign y) (hg : o.guard = none) (h : Opd ts g A o y p) (hi : ts.getD i .any = .val p) : Ob ts w0 g m ops A i o :=
  ob_run hg fun v k w _ hJ hdep => ⟨(A v).eval y, w, by rcases ho with ho | ho <;> (unfold execOp; simp only [ho]; rfl), by show Ty.ok _ _ _ _; rw [hi]; exact h.out v w hdep, hJ.up, grefl _ _⟩
theorem ob_pick {y : Operand} {N hi' : Int} {aty : Array TypeId} (j : Nat) (ho : o.op = .call { callee := .value (.func 37), args := #[y, .const (.int .i64 N)], argTypes := aty }) (hg : o.guard = none)
    (e : ∀ v, (A v).eval y = v j) (hd : hasDep .any o j = true) (hj : ts.getD j .any = .is (.pointer (some ⟨g, 0, none⟩))) (hi : ts.getD i .any = .val (IsI 0 hi')) (hN : 1 ≤ N) (hhi : N - 1 ≤ hi') (hm : m + ops.size ≤ 1000000) : Ob ts w0 g m ops A i o :=
  ob_call hg fun v k w hk hJ hdep => by
    have hp : v j = .pointer (some ⟨g, 0, none⟩) := dep_ok hdep j hd hj
    refine ⟨37, #[.pointer (some ⟨g, 0, none⟩), .int .i64 N], ?_, ?_⟩
    · unfold execOp
      simp only [ho]
      simp only [resolve, List.map_toArray, List.map_cons, List.map_nil, e, hp]
      rfl
    · refine (j_pick hJ (by omega) hN).mono ?_
      rintro e w' ⟨x, rfl, hx, hJ', hg'⟩
      exact ⟨_, rfl, by show Ty.ok _ _ _ _; rw [hi]; exact ⟨x, rfl, hx.1, by omega⟩, hJ', hg'⟩
theorem ob_arr {t el : TypeId} {n : Nat} {parts : Array (Nat × Operand)} {p : Value → Prop} (F : (Nat → Value) → List Value) (ho : o.op = .buildSlice t n parts) (hg : o.guard = none)
    (hu : Try.prog.underlying t = some (.slice el)) (hsz : (Try.prog.info? el).map (·.size) = some 1) (hz : ((Try.prog.info? el).bind (·.zero)).isSome = true)
    (e : ∀ v, (parts.map fun (i, x) => (i, (A v).eval x)).toList = ((F v).zipIdx 0).map fun x => (x.2, x.1)) (hl : ∀ v, (F v).length = n) (hn : 0 < n) (hn2 : n ≤ 1000) (hone : ∀ u, p u → u.cells = #[u])
    (hp : ∀ v w, DepsOf .any (fun i => (ts.getD i .any).ok g) v w o → ∀ u ∈ F v, p u) (hi : ts.getD i .any = .arr n p) : Ob ts w0 g m ops A i o :=
  ob_run hg fun v k w _ hJ hdep => by
    cases hie : Try.prog.info? el with
    | none => simp [hie] at hsz
    | some ie =>
      simp only [hie, Option.map_some, Option.some.injEq, Option.bind_some] at hsz hz
      obtain ⟨z, hzz⟩ := Option.isSome_iff_exists.1 hz
      have hpv := hp v w hdep
      have hrun := run_buildSlice (P := Try.prog) w t el n (parts.map fun (i, x) => (i, (A v).eval x)) (F v).toArray ie z hu hie hzz (by rw [hsz]; omega) (by rw [hsz]; omega) (by
        rw [e, hsz]
        exact Great.fill_flat _ _ (fun u hu => hone u (hpv u hu)) (by simp [hl]))
      refine ⟨_, _, by unfold execOp; simp only [ho, Sem.run_bind, hrun, Result.andThen_ok]; rfl, ?_, hJ.up.alloc _, galloc (grefl _ _) _⟩
      show Ty.ok _ _ _ _
      rw [hi]
      refine ⟨_, el, _, rfl, ?_, Blk.new _ _ _, fun q hq => ?_⟩
      · have := hJ.1.lt; omega
      · have hq' : q < (F v).length := by rw [hl]; exact hq
        exact ⟨(F v)[q], by simp [hq'], hpv _ (List.getElem_mem _)⟩
theorem ob_idx {t el : TypeId} {y z : Operand} {n : Nat} {p : Value → Prop} {hi' : Int} (j : Nat) (ho : o.op = .indexAddr t y z) (hg : o.guard = none)
    (e : ∀ v, (A v).eval y = v j) (hd : hasDep .any o j = true) (hj : ts.getD j .any = .arr n p) (hx : Opd ts g A o z (IsI 0 hi')) (hn : hi' < n)
    (hu : Try.prog.underlying t = some (.slice el)) (hsz : (Try.prog.info? el).map (·.size) = some 1) (hi : ts.getD i .any = .elem p) : Ob ts w0 g m ops A i o :=
  ob_run hg fun v k w _ hJ hdep => by
    have hp := dep_ok hdep j hd hj
    obtain ⟨b, tb, cs, hv, hb, hB, hc⟩ := hp
    obtain ⟨x, hx1, hx2, hx3⟩ := hx.out v w hdep
    obtain ⟨q, rfl⟩ := Int.eq_ofNat_of_zero_le hx2
    obtain ⟨u, hu1, hu2⟩ := hc q (by omega)
    refine ⟨.pointer (some ⟨b, q, none⟩), w, ?_, ?_, hJ.up, grefl _ _⟩
    · unfold execOp
      simp only [ho, e, hv, hx1]
      cases hie : Try.prog.info? el with
      | none => simp [hie] at hsz
      | some ie =>
        simp only [hie, Option.map_some, Option.some.injEq] at hsz
        simp [Instr.indexAt, run_underlying hu, asIntOf, sizeOf, typeInfo, hie, hsz, show q < n by omega, add_lit']
    · show Ty.ok _ _ _ _
      rw [hi]
      exact ⟨b, q, u, rfl, hb, hB.lt, (hB.cell q).trans hu1, hu2⟩
theorem ob_load {t : TypeId} {y : Operand} {p : Value → Prop} (j : Nat) (ho : o.op = .load t y) (hg : o.guard = none)
    (e : ∀ v, (A v).eval y = v j) (hd : hasDep .any o j = true) (hj : ts.getD j .any = .elem p) (hld : ∀ (w : World) (a : Addr) (u : Value), w.cell? a = some u → p u → (Instr.loadAt t (.pointer (some a))).run Try.prog w = .ok u w)
    (hi : ts.getD i .any = .val p) : Ob ts w0 g m ops A i o :=
  ob_run hg fun v k w _ hJ hdep => by
    have hp := dep_ok hdep j hd hj
    obtain ⟨b, q, u, hv, hb, hl, hc, hu⟩ := hp
    refine ⟨u, w, ?_, by show Ty.ok _ _ _ _; rw [hi]; exact hu, hJ.up, grefl _ _⟩
    unfold execOp
    simp only [ho, e, hv, Sem.run_bind, hld w _ u hc hu, Result.andThen_ok]
    rfl
theorem ld_int {lo hi : Int} (w : World) (a : Addr) (u : Value) (h : w.cell? a = some u) (hu : IsI lo hi u) : (Instr.loadAt 3 (.pointer (some a))).run Try.prog w = .ok u w := by
  obtain ⟨x, rfl, _, _⟩ := hu
  simp [go_sem, h]
theorem IsI.one {lo hi : Int} (u : Value) (h : IsI lo hi u) : u.cells = #[u] := by obtain ⟨x, rfl, _⟩ := h; rfl
theorem ob_add {y z : Operand} {a b c d lo hi' : Int} {tz : TypeId} (ho : o.op = .binOp .add 3 y z tz) (hg : o.guard = none) (h1 : Opd ts g A o y (IsI a b)) (h2 : Opd ts g A o z (IsI c d))
    (hl : lo ≤ a + c) (hh : b + d ≤ hi') (hl2 : -1000000000000 ≤ a + c) (hh2 : b + d ≤ 1000000000000) (hi : ts.getD i .any = .val (IsI lo hi')) : Ob ts w0 g m ops A i o :=
  ob_run hg fun v k w _ hJ hdep => by
    obtain ⟨x, e1, x1, x2⟩ := h1.out v w hdep
    obtain ⟨q, e2, q1, q2⟩ := h2.out v w hdep
    refine ⟨.int .i64 (x + q), w, ?_, by show Ty.ok _ _ _ _; rw [hi]; exact ⟨_, rfl, by omega, by omega⟩, hJ.up, grefl _ _⟩
    unfold execOp
    have hw : IntKind.i64.wrap (x + q) = x + q := IntWalk.i64_in _ (by omega)
    simp only [ho, e1, e2]
    simp [go_sem, hw]
theorem ob_sub {y z : Operand} {a b c d lo hi' : Int} {tz : TypeId} (ho : o.op = .binOp .sub 3 y z tz) (hg : o.guard = none) (h1 : Opd ts g A o y (IsI a b)) (h2 : Opd ts g A o z (IsI c d))
    (hl : lo ≤ a - d) (hh : b - c ≤ hi') (hl2 : -1000000000000 ≤ a - d) (hh2 : b - c ≤ 1000000000000) (hi : ts.getD i .any = .val (IsI lo hi')) : Ob ts w0 g m ops A i o :=
  ob_run hg fun v k w _ hJ hdep => by
    obtain ⟨x, e1, x1, x2⟩ := h1.out v w hdep
    obtain ⟨q, e2, q1, q2⟩ := h2.out v w hdep
    refine ⟨.int .i64 (x - q), w, ?_, by show Ty.ok _ _ _ _; rw [hi]; exact ⟨_, rfl, by omega, by omega⟩, hJ.up, grefl _ _⟩
    unfold execOp
    have hw : IntKind.i64.wrap (x - q) = x - q := IntWalk.i64_in _ (by omega)
    simp only [ho, e1, e2]
    simp [go_sem, hw]
theorem ob_mul {y z : Operand} {a b c d lo hi' : Int} {tz : TypeId} (ho : o.op = .binOp .mul 3 y z tz) (hg : o.guard = none) (h1 : Opd ts g A o y (IsI a b)) (h2 : Opd ts g A o z (IsI c d))
    (ha : 0 ≤ a) (hc : 0 ≤ c) (hl : lo ≤ 0) (hh : b * d ≤ hi') (hh2 : b * d ≤ 1000000000000) (hi : ts.getD i .any = .val (IsI lo hi')) : Ob ts w0 g m ops A i o :=
  ob_run hg fun v k w _ hJ hdep => by
    obtain ⟨x, e1, x1, x2⟩ := h1.out v w hdep
    obtain ⟨q, e2, q1, q2⟩ := h2.out v w hdep
    have hm0 : 0 ≤ x * q := Int.mul_nonneg (by omega) (by omega)
    have hm1 : x * q ≤ b * d := Int.mul_le_mul x2 q2 (by omega) (by omega)
    refine ⟨.int .i64 (x * q), w, ?_, by show Ty.ok _ _ _ _; rw [hi]; exact ⟨_, rfl, by omega, by omega⟩, hJ.up, grefl _ _⟩
    unfold execOp
    have hw : IntKind.i64.wrap (x * q) = x * q := IntWalk.i64_in _ (by omega)
    simp only [ho, e1, e2]
    simp [go_sem, hw]
theorem ob_quo {y z : Operand} {a b c d lo hi' : Int} {tz : TypeId} (ho : o.op = .binOp .quo 3 y z tz) (hg : o.guard = none) (h1 : Opd ts g A o y (IsI a b)) (h2 : Opd ts g A o z (IsI c d))
    (ha : 0 ≤ a) (hc : 1 ≤ c) (hl : lo ≤ 0) (hh : b ≤ hi') (hh2 : b ≤ 1000000000000) (hi : ts.getD i .any = .val (IsI lo hi')) : Ob ts w0 g m ops A i o :=
  ob_run hg fun v k w _ hJ hdep => by
    obtain ⟨x, e1, x1, x2⟩ := h1.out v w hdep
    obtain ⟨q, e2, q1, q2⟩ := h2.out v w hdep
    have hm0 : 0 ≤ x / q := Int.ediv_nonneg (by omega) (by omega)
    have hm1 : x / q ≤ x := Int.ediv_le_self _ (by omega)
    have ht : x.tdiv q = x / q := Int.tdiv_eq_ediv_of_nonneg (by omega)
    refine ⟨.int .i64 (x / q), w, ?_, by show Ty.ok _ _ _ _; rw [hi]; exact ⟨_, rfl, by omega, by omega⟩, hJ.up, grefl _ _⟩
    unfold execOp
    have hw : IntKind.i64.wrap (x / q) = x / q := IntWalk.i64_in _ (by omega)
    have hq : q ≠ 0 := by omega
    simp only [ho, e1, e2]
    simp [go_sem, ht, hw, hq]
theorem ob_quoc {y z : Operand} {a b c d lo hi' : Int} {tz : TypeId} (ho : o.op = .binOp .quo 3 y z tz) (hg : o.guard = none) (h1 : Opd ts g A o y (IsI a b)) (h2 : Opd ts g A o z (IsI c d))
    (ha : 0 ≤ a) (hcd : c = d) (hc : 1 ≤ c) (hl : lo ≤ 0) (hh : b / c ≤ hi') (hh2 : b ≤ 1000000000000) (hi : ts.getD i .any = .val (IsI lo hi')) : Ob ts w0 g m ops A i o :=
  ob_run hg fun v k w _ hJ hdep => by
    obtain ⟨x, e1, x1, x2⟩ := h1.out v w hdep
    obtain ⟨q, e2, q1, q2⟩ := h2.out v w hdep
    obtain rfl : q = c := by omega
    have hm0 : 0 ≤ x / q := Int.ediv_nonneg (by omega) (by omega)
    have hm1 : x / q ≤ x := Int.ediv_le_self _ (by omega)
    have hm2 : x / q ≤ b / q := Int.ediv_le_ediv (by omega) x2
    have ht : x.tdiv q = x / q := Int.tdiv_eq_ediv_of_nonneg (by omega)
    refine ⟨.int .i64 (x / q), w, ?_, by show Ty.ok _ _ _ _; rw [hi]; exact ⟨_, rfl, by omega, by omega⟩, hJ.up, grefl _ _⟩
    unfold execOp
    have hw : IntKind.i64.wrap (x / q) = x / q := IntWalk.i64_in _ (by omega)
    have hq : q ≠ 0 := by omega
    simp only [ho, e1, e2]
    simp [go_sem, ht, hw, hq]
theorem ob_min {y z : Operand} {a b c d lo hi' : Int} {aty : Array TypeId} (ho : o.op = .call { callee := .builtin .min, args := #[y, z], argTypes := aty }) (hg : o.guard = none) (h1 : Opd ts g A o y (IsI a b)) (h2 : Opd ts g A o z (IsI c d))
    (hl : lo ≤ min a c) (hh : min b d ≤ hi') (hi : ts.getD i .any = .val (IsI lo hi')) : Ob ts w0 g m ops A i o :=
  ob_run hg fun v k w _ hJ hdep => by
    obtain ⟨x, e1, x1, x2⟩ := h1.out v w hdep
    obtain ⟨q, e2, q1, q2⟩ := h2.out v w hdep
    refine ⟨.int .i64 (min x q), w, ?_, by show Ty.ok _ _ _ _; rw [hi]; exact ⟨_, rfl, by omega, by omega⟩, hJ.up, grefl _ _⟩
    unfold execOp
    simp only [ho, resolve, List.map_toArray, List.map_cons, List.map_nil, e1, e2]
    simp [go_sem]
    try (simp only [Int.min_def]; split <;> first | rfl | omega | (split <;> omega))
theorem ob_max {y z : Operand} {a b c d lo hi' : Int} {aty : Array TypeId} (ho : o.op = .call { callee := .builtin .max, args := #[y, z], argTypes := aty }) (hg : o.guard = none) (h1 : Opd ts g A o y (IsI a b)) (h2 : Opd ts g A o z (IsI c d))
    (hl : lo ≤ max a c) (hh : max b d ≤ hi') (hi : ts.getD i .any = .val (IsI lo hi')) : Ob ts w0 g m ops A i o :=
  ob_run hg fun v k w _ hJ hdep => by
    obtain ⟨x, e1, x1, x2⟩ := h1.out v w hdep
    obtain ⟨q, e2, q1, q2⟩ := h2.out v w hdep
    refine ⟨.int .i64 (max x q), w, ?_, by show Ty.ok _ _ _ _; rw [hi]; exact ⟨_, rfl, by omega, by omega⟩, hJ.up, grefl _ _⟩
    unfold execOp
    simp only [ho, resolve, List.map_toArray, List.map_cons, List.map_nil, e1, e2]
    simp [go_sem]
    try (simp only [Int.max_def]; split <;> first | rfl | omega | (split <;> omega))
theorem ob_pickN {y z : Operand} {hi' c d : Int} {aty : Array TypeId} (j : Nat) (ho : o.op = .call { callee := .value (.func 37), args := #[y, z], argTypes := aty }) (hg : o.guard = none)
    (e : ∀ v, (A v).eval y = v j) (hd : hasDep .any o j = true) (hj : ts.getD j .any = .is (.pointer (some ⟨g, 0, none⟩))) (hz : Opd ts g A o z (IsI c d)) (hi : ts.getD i .any = .val (IsI 0 hi')) (hN : 1 ≤ c) (hhi : d - 1 ≤ hi') (hm : m + ops.size ≤ 1000000) : Ob ts w0 g m ops A i o :=
  ob_call hg fun v k w hk hJ hdep => by
    have hp : v j = .pointer (some ⟨g, 0, none⟩) := dep_ok hdep j hd hj
    obtain ⟨N, e2, q1, q2⟩ := hz.out v w hdep
    refine ⟨37, #[.pointer (some ⟨g, 0, none⟩), .int .i64 N], ?_, ?_⟩
    · unfold execOp
      simp only [ho]
      simp only [resolve, List.map_toArray, List.map_cons, List.map_nil, e, e2, hp]
      rfl
    · refine (j_pick hJ (by omega) (by omega)).mono ?_
      rintro e w' ⟨x, rfl, hx, hJ', hg'⟩
      exact ⟨_, rfl, by show Ty.ok _ _ _ _; rw [hi]; exact ⟨x, rfl, hx.1, by omega⟩, hJ', hg'⟩
end ops
end Go.Proofs.Ytfflnkkhemaanaa
