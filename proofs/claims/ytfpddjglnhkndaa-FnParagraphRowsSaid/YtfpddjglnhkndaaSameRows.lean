/- Two lists of rows compared by the laws. No condition. -/
import Derived.Test.YtfpddjglnhkndaaRowsX
import Derived.Laws.StructEq
namespace Go.Proofs.Ytfpddjglnhkndaa
open Go.RowKit
set_option linter.unusedVariables false

theorem rowFields : Try.prog.underlying 25 = some (.struct (Try.prog.fieldsOf 25)) := by kernel_rfl
theorem rowStood : Try.prog.stoodInHeld 25 = false := by kernel_rfl
theorem rowGuard : Try.prog.eqGuardType Try.prog.depth 25 = false := by kernel_rfl
theorem neq_row (r s : Row) (w : World) : (binOp .neq 25 (.agg #[.int .i64 r.h, .bool r.k, .int .i64 r.n, .int .i64 r.f]) (.agg #[.int .i64 s.h, .bool s.k, .int .i64 s.n, .int .i64 s.f])).run Try.prog w = .ok (.bool (!(decide (r = s)))) w := by
  rw [run_neq_struct, run_equalIn_agg w _ _ _ _ rowFields rowStood]
  obtain ⟨a, b, c, d⟩ := r
  obtain ⟨a', b', c', d'⟩ := s
  by_cases h1 : a = a' <;> by_cases h2 : b = b' <;> by_cases h3 : c = c' <;> by_cases h4 : d = d' <;> simp [go_sem, Program.fieldsOf, Try.underlying25, Try.underlying3, Try.underlying4, h1, h2, h3, h4]

set_option maxHeartbeats 800000 in
theorem c_sameRows_same (A A' : Option Addr) (n n' c c' : Nat) (xs : List Row) (w : World) (h1 : RowsAt w A n c xs) (h2 : RowsAt w A' n' c' xs) :
    Calls Try.prog 37 #[.slice A n c, .slice A' n' c'] w fun e w' => e = .returned (.bool true) ∧ Below w.heap.size w w' := by
  obtain rfl : n = n' := by rw [← h1.len, ← h2.len]
  have hbd := h1.bd
  have hbd2 := h2.bd
  go_enter Try.func37, Try.ntmps37
  go_wp2
  go_loopw [5] (fun i wr => ∃ k : Nat, k ≤ n ∧ i = .int .i64 k ∧ Below w.heap.size w wr) (fun i _ => n - (intOf i).toNat)
  case atStart => exact ⟨0, Nat.zero_le _, rfl, Below.refl _ _⟩
  case round =>
    obtain ⟨k, hk, rfl, hbel⟩ := hrel
    by_cases hlt : k < n
    · obtain ⟨b, off, x, rfl, hb, hx, p0, p1, p2, p3⟩ := (h1.next hbel).at_ hlt
      obtain ⟨b', off', y, rfl, hb', hy, q0, q1, q2, q3⟩ := (h2.next hbel).at_ hlt
      rw [hx] at hy
      injection hy with hy
      subst hy
      have hne := fun wx => neq_row x x wx
      simp only [decide_true, Bool.not_true] at hne
      have hgd : ∀ wx, (eqGuard .neq 25 (.tmp 20) (.tmp 24) (.agg #[.int .i64 x.h, .bool x.k, .int .i64 x.n, .int .i64 x.f]) (.agg #[.int .i64 x.h, .bool x.k, .int .i64 x.n, .int .i64 x.f])).run Try.prog wx = .ok () wx := fun wx => run_eqGuard_agg wx _ _ _ _ _ _ rowGuard
      clear hx
      go_wp2
      go_quiet (fail)
      go_wp2
      go_roundw
      case rel => exact ⟨k + 1, by omega, by go_num, by first | exact bdrewN hbel _ | exact hbel.drew⟩
      case measure => simp [intOf]; omega
    · go_wp2
      go_ret
      exact ⟨rfl, hbel⟩
end Go.Proofs.Ytfpddjglnhkndaa
