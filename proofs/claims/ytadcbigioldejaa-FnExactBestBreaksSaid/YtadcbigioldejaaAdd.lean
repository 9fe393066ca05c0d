/- The reference's sum of glues over a line: contracts. No condition. -/
import Derived.Test.YtadcbigioldejaaGlues
namespace Go.Proofs.Ytadcbigioldejaa
open Go.RowKit
set_option linter.unusedVariables false

/-- Numbers of a glue, or of a sum of glues, that cannot overflow. -/
structure Gl.Small (g : Gl) : Prop where
  w : 0 ≤ g.w ∧ g.w ≤ 1000000
  st : 0 ≤ g.st ∧ g.st ≤ 1000000
  sh : 0 ≤ g.sh ∧ g.sh ≤ 1000000
  od : g.od = 0 ∨ g.od = 1
theorem Gl.small_ok {g : Gl} (h : g.ok = true) : g.Small := by
  rw [Gl.ok_iff] at h; exact ⟨by omega, by omega, by omega, by omega⟩
theorem small_tot {l : List Gl} (h : l.all Gl.ok = true) (hl : l.length ≤ 1000) : (gTot l).Small := by
  have a := gW_bd h
  have b := gSt_bd (o := gOd l) h
  have c := gSh_bd h
  refine ⟨?_, ?_, ?_, ?_⟩
  · show 0 ≤ gW l ∧ gW l ≤ _; omega
  · show 0 ≤ gSt _ l ∧ gSt _ l ≤ _; omega
  · show 0 ≤ gSh l ∧ gSh l ≤ _; omega
  · show gOd l = 0 ∨ gOd l = 1; unfold gOd; split <;> simp
theorem m01 : max (0 : Int) 1 = 1 := rfl
theorem m10 : max (1 : Int) 0 = 1 := rfl
set_option maxRecDepth 100000 in
set_option maxHeartbeats 8000000 in
theorem c_l1Add (a b : Gl) (w : World) (ha : a.Small) (hb : b.Small) :
    Calls Try.prog 75 #[.agg #[.int .i64 a.w, .int .i64 a.st, .int .i64 a.sh, .int .i64 a.od], .agg #[.int .i64 b.w, .int .i64 b.st, .int .i64 b.sh, .int .i64 b.od]] w fun e w' => e = .returned (.agg #[.int .i64 (gAdd a b).w, .int .i64 (gAdd a b).st, .int .i64 (gAdd a b).sh, .int .i64 (gAdd a b).od]) ∧ Below w.heap.size w w' := by
  obtain ⟨aw, ast, ash, aod⟩ := a
  obtain ⟨bw, bst, bsh, bod⟩ := b
  obtain ⟨⟨a1, a1'⟩, ⟨a2, a2'⟩, ⟨a3, a3'⟩, a4⟩ := ha
  obtain ⟨⟨b1, b1'⟩, ⟨b2, b2'⟩, ⟨b3, b3'⟩, b4⟩ := hb
  dsimp only at a1 a1' a2 a2' a3 a3' a4 b1 b1' b2 b2' b3 b3' b4 ⊢
  obtain ⟨R, HR⟩ : ∃ R, Hid (gAdd ⟨aw, ast, ash, aod⟩ ⟨bw, bst, bsh, bod⟩ = R) := ⟨_, rfl⟩
  rw [unhide HR]
  have pa : ast = 0 ∨ (ast ≠ 0 ∧ aod = 0) ∨ (ast ≠ 0 ∧ aod = 1) := by omega
  have pb : bst = 0 ∨ (bst ≠ 0 ∧ bod = 0) ∨ (bst ≠ 0 ∧ bod = 1) := by omega
  clear a4 b4
  rcases pa with rfl | ⟨az, rfl⟩ | ⟨az, rfl⟩ <;> rcases pb with rfl | ⟨bz, rfl⟩ | ⟨bz, rfl⟩
  all_goals
    go_enter Try.func75, Try.ntmps75
    go_wp2_with (refine wpList_max rfl rfl rfl rfl ?_)
    have e := unhide HR
    refine bodyPost_ret (v := .agg #[.int .i64 R.w, .int .i64 R.st, .int .i64 R.sh, .int .i64 R.od]) (by simp [results, Try.results75, go_sem]; rw [← e]; simp [gAdd, m01, m10, *]) rfl ⟨rfl, ?_⟩
    repeat (refine Below.setCell ?_ (by dsimp only; omega) _)
    exact bmk (bmk (bmk (bmk (bmk (bof _ _) _) _) _) _) _
end Go.Proofs.Ytadcbigioldejaa
