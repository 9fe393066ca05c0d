/- Pages with notes and figures: what the functions compute, in plain Lean. No condition. -/
import Derived.Test.YtfflnkkhemaanaaPagesP
namespace Go.Proofs.Ytfflnkkhemaanaa
open Go.RowKit
set_option linter.unusedVariables false

structure Leaf where
  from_ : Int
  to_ : Int
  notes : Int
  figs : List Int
  deriving DecidableEq
def figF (rs : List Row) (x : Int) : Int := match rs[x.toNat]? with | some r => r.f | none => 0
def figsF (rs : List Row) (l : List Int) : Int := (l.map (figF rs)).sum
theorem figsF_nil (rs : List Row) : figsF rs [] = 0 := rfl
theorem figsF_cons (rs : List Row) (x : Int) (l : List Int) : figsF rs (x :: l) = figF rs x + figsF rs l := by simp [figsF]
theorem figsF_append (rs : List Row) (a b : List Int) : figsF rs (a ++ b) = figsF rs a + figsF rs b := by simp [figsF, List.sum_append]
theorem figsF_one (rs : List Row) (x : Int) : figsF rs [x] = figF rs x := by simp [figsF]
theorem figF_get {rs : List Row} {k : Nat} {r : Row} (h : rs[k]? = some r) : figF rs (k : Int) = r.f := by rw [figF, Int.toNat_natCast, h]
def figsIn (rs : List Row) (l : List Int) : Bool := l.all fun x => inB x 0 ((rs.length : Int) - 1)
def leafOk (rs : List Row) (lf : Leaf) : Bool :=
  rowsValid rs && (inB lf.to_ 0 rs.length && (inB lf.from_ 0 lf.to_ && (inB lf.notes 0 1000000 && decide (lf.figs.length ≤ 30))))
def leafHeight (rs : List Row) (lf : Leaf) : Int :=
  if leafOk rs lf && figsIn rs lf.figs then seg rs lf.from_.toNat lf.to_.toNat + lf.notes + figsF rs lf.figs else -1
theorem figF_bd {rs : List Row} (hv : rs.all rowValid = true) (x : Int) : 0 ≤ figF rs x ∧ figF rs x ≤ 1000 := by
  unfold figF
  split
  · rename_i r hr
    have h1 := List.all_eq_true.1 hv r (List.mem_of_getElem? hr)
    simp only [rowValid, Bool.and_eq_true, inB_iff] at h1
    exact h1.2
  · omega
theorem figsF_bd {rs : List Row} (hv : rs.all rowValid = true) : ∀ l : List Int, 0 ≤ figsF rs l ∧ figsF rs l ≤ 1000 * (l.length : Int)
  | [] => by simp [figsF_nil]
  | x :: t => by
    have h1 := figF_bd hv x
    have h2 := figsF_bd hv t
    rw [figsF_cons, List.length_cons]; omega
/-- The first figures that fit. -/
def nTake (rs : List Row) : List Int → Int → Nat
  | [], _ => 0
  | x :: t, room => if figF rs x ≤ room then nTake rs t (room - figF rs x) + 1 else 0
theorem nTake_le (rs : List Row) : ∀ (l : List Int) (room : Int), nTake rs l room ≤ l.length
  | [], _ => Nat.le_refl _
  | x :: t, room => by
    rw [nTake]; split
    · have := nTake_le rs t (room - figF rs x); simp; omega
    · simp
/-- Behind the first k of them. -/
theorem nTake_at (rs : List Row) : ∀ (l : List Int) (room : Int) (k : Nat), k ≤ nTake rs l room → nTake rs l room = k + nTake rs (l.drop k) (room - figsF rs (l.take k))
  | l, room, 0, _ => by simp [figsF_nil]
  | [], room, k + 1, h => by simp [nTake] at h
  | x :: t, room, k + 1, h => by
    rw [nTake] at h ⊢
    split
    · rename_i hx
      rw [if_pos hx] at h
      have := nTake_at rs t (room - figF rs x) k (by omega)
      rw [List.drop_succ_cons, List.take_succ_cons, figsF_cons, show room - (figF rs x + figsF rs (t.take k)) = room - figF rs x - figsF rs (t.take k) by omega]
      omega
    · rename_i hx
      rw [if_neg hx] at h; omega
theorem nTake_more {rs : List Row} {l : List Int} {room : Int} {k : Nat} {x : Int} (hk : k ≤ nTake rs l room) (hx : l[k]? = some x) : (figF rs x ≤ room - figsF rs (l.take k) → k + 1 ≤ nTake rs l room) ∧ (room - figsF rs (l.take k) < figF rs x → nTake rs l room = k) := by
  have h := nTake_at rs l room k hk
  rw [drop_get hx, nTake] at h
  constructor
  · intro h1; rw [if_pos h1] at h; omega
  · intro h1; rw [if_neg (by omega)] at h; omega
theorem nTake_end {rs : List Row} {l : List Int} {room : Int} (hk : l.length ≤ nTake rs l room) : nTake rs l room = l.length := Nat.le_antisymm (nTake_le _ _ _) hk
/-- The room left behind the figures taken is not less than none. -/
theorem nTake_room (rs : List Row) : ∀ (l : List Int) (room : Int), 0 ≤ room → 0 ≤ room - figsF rs (l.take (nTake rs l room))
  | [], room, h => by simp [nTake, figsF_nil]; exact h
  | x :: t, room, h => by
    rw [nTake]
    split
    · rename_i hx
      have := nTake_room rs t (room - figF rs x) (by omega)
      rw [List.take_succ_cons, figsF_cons]; omega
    · simp [figsF_nil]; exact h

theorem nTake_room_at (rs : List Row) : ∀ (l : List Int) (room : Int) (k : Nat), 0 ≤ room → k ≤ nTake rs l room → 0 ≤ room - figsF rs (l.take k)
  | l, room, 0, h, _ => by simp [figsF_nil]; exact h
  | [], room, k + 1, h, hk => by simp [nTake] at hk
  | x :: t, room, k + 1, h, hk => by
    rw [nTake] at hk
    split at hk
    · rename_i hx
      have := nTake_room_at rs t (room - figF rs x) k (by omega) (by omega)
      rw [List.take_succ_cons, figsF_cons]; omega
    · omega

/-- A page under way. -/
structure Pg where
  at_ : Nat
  left : Int
  wait : List Int
  notes : Int
  figs : List Int
  room : Int
/-- Between two pages. -/
structure Bk where
  at_ : Nat
  left : Int
  wait : List Int
def openPg (rs : List Row) (h : Int) (s : Bk) : Pg :=
  ⟨s.at_, s.left - min s.left h, s.wait.drop (nTake rs s.wait (h - min s.left h)), min s.left h, s.wait.take (nTake rs s.wait (h - min s.left h)), h - min s.left h - figsF rs (s.wait.take (nTake rs s.wait (h - min s.left h)))⟩
/-- Whether a row comes on the page that began with the row a. -/
def stops (a : Nat) (r : Row) (p : Pg) : Prop := p.room < r.h + r.n ∧ (a < p.at_ ∨ p.room < r.h)
instance (a : Nat) (r : Row) (p : Pg) : Decidable (stops a r p) := inferInstanceAs (Decidable (_ ∧ _))
def addRow (r : Row) (p : Pg) : Pg :=
  if 0 < r.f then
    (if p.wait = [] ∧ r.f ≤ p.room - r.h - min r.n (p.room - r.h) then
      ⟨p.at_ + 1, r.n - min r.n (p.room - r.h), p.wait, p.notes + min r.n (p.room - r.h), p.figs ++ [(p.at_ : Int)], p.room - r.h - min r.n (p.room - r.h) - r.f⟩
    else ⟨p.at_ + 1, r.n - min r.n (p.room - r.h), p.wait ++ [(p.at_ : Int)], p.notes + min r.n (p.room - r.h), p.figs, p.room - r.h - min r.n (p.room - r.h)⟩)
  else ⟨p.at_ + 1, r.n - min r.n (p.room - r.h), p.wait, p.notes + min r.n (p.room - r.h), p.figs, p.room - r.h - min r.n (p.room - r.h)⟩
def fillPg (rs : List Row) (a : Nat) : Nat → Pg → Pg
  | 0, p => p
  | f + 1, p => if p.left = 0 then (match rs[p.at_]? with | some r => if stops a r p then p else fillPg rs a f (addRow r p) | none => p) else p
def pageOf (rs : List Row) (h : Int) (s : Bk) : Pg := fillPg rs s.at_ rs.length (openPg rs h s)
def endPg (p : Pg) : Bk := ⟨p.at_, p.left, p.wait⟩
def leafOf (s : Bk) (p : Pg) : Leaf := ⟨s.at_, p.at_, p.notes, p.figs⟩
def more (rs : List Row) (s : Bk) : Bool := decide (s.at_ < rs.length) || (decide (0 < s.left) || decide (s.wait ≠ []))
def makeGo (rs : List Row) (h : Int) : Nat → Bk → List Leaf
  | 0, _ => []
  | f + 1, s => if more rs s then leafOf s (pageOf rs h s) :: makeGo rs h f (endPg (pageOf rs h s)) else []
def lowOk (rs : List Row) (h : Int) : Bool := rs.all fun r => decide (r.h ≤ h) && decide (r.f ≤ h)
def makeOk (rs : List Row) (h : Int) : Bool := argsOk rs h && lowOk rs h
def msr (rs : List Row) (s : Bk) : Nat := (rs.length - s.at_) * 2000 + s.left.toNat + s.wait.length
def makeLeaves (rs : List Row) (h : Int) : List Leaf := if makeOk rs h then makeGo rs h 60000 ⟨0, 0, []⟩ else []
/-- The rows before k that have a figure. -/
def figList (rs : List Row) (k : Nat) : List Int := ((List.range k).filter fun (i : Nat) => decide (0 < figF rs (i : Int))).map fun (i : Nat) => (i : Int)
theorem figList_succ (rs : List Row) (k : Nat) : figList rs (k + 1) = figList rs k ++ (if 0 < figF rs (k : Int) then [(k : Int)] else []) := by
  unfold figList
  rw [List.range_succ, List.filter_append, List.map_append]
  congr 1
  by_cases h : 0 < figF rs (k : Int) <;> simp [h]
theorem figList_len (rs : List Row) : ∀ k, (figList rs k).length ≤ k
  | 0 => by simp [figList]
  | k + 1 => by
    rw [figList_succ, List.length_append]
    have := figList_len rs k
    split <;> simp <;> omega
theorem figList_mem {rs : List Row} : ∀ {k : Nat} {x : Int}, x ∈ figList rs k → 0 ≤ x ∧ x < k ∧ 0 < figF rs x
  | k, x, h => by
    unfold figList at h
    simp only [List.mem_map, List.mem_filter, List.mem_range, decide_eq_true_eq] at h
    obtain ⟨i, ⟨h1, h2⟩, rfl⟩ := h
    exact ⟨by omega, by omega, h2⟩
def sumN (rs : List Row) : Int := (rs.map Row.n).sum
theorem sumN_append (a b : List Row) : sumN (a ++ b) = sumN a + sumN b := by simp [sumN, List.sum_append]
theorem sumN_snoc {rs : List Row} {k : Nat} {r : Row} (h : rs[k]? = some r) : sumN (rs.take (k + 1)) = sumN (rs.take k) + r.n := by
  rw [take_snoc' h, sumN_append]; simp [sumN]
theorem sumN_bd : ∀ {rs : List Row}, rs.all rowValid = true → 0 ≤ sumN rs ∧ sumN rs ≤ rs.length * 1000
  | [], _ => by simp [sumN]
  | r :: t, h => by
    simp only [List.all_cons, Bool.and_eq_true] at h
    have ih := sumN_bd h.2
    have hr := h.1
    simp only [rowValid, Bool.and_eq_true, inB_iff] at hr
    have : sumN (r :: t) = r.n + sumN t := by simp [sumN]
    rw [this, List.length_cons]; omega

/-! ### what holds at every point -/
/-- Between pages: the figures of the pages before are D, the notes on them N. -/
structure BkOk (rs : List Row) (h : Int) (D : List Int) (N : Int) (s : Bk) : Prop where
  at_ : s.at_ ≤ rs.length
  left : 0 ≤ s.left ∧ s.left ≤ 1000
  figs : D ++ s.wait = figList rs s.at_
  notes : N + s.left = sumN (rs.take s.at_)
/-- On a page that began with the row a. -/
structure PgOk (rs : List Row) (h : Int) (D : List Int) (N : Int) (a : Nat) (p : Pg) : Prop where
  at_ : p.at_ ≤ rs.length
  from_ : a ≤ p.at_
  left : 0 ≤ p.left ∧ p.left ≤ 1000
  figs : D ++ p.figs ++ p.wait = figList rs p.at_
  notes : N + p.notes + p.left = sumN (rs.take p.at_)
  notes0 : 0 ≤ p.notes ∧ p.notes ≤ 1000
  room : p.room = h - (seg rs a p.at_ + p.notes + figsF rs p.figs)
  room0 : 0 ≤ p.room
theorem row_bd {rs : List Row} (hv : rs.all rowValid = true) {k : Nat} {r : Row} (h : rs[k]? = some r) : (1 ≤ r.h ∧ r.h ≤ 1000) ∧ (0 ≤ r.n ∧ r.n ≤ 1000) ∧ (0 ≤ r.f ∧ r.f ≤ 1000) := by
  have h1 := List.all_eq_true.1 hv r (List.mem_of_getElem? h)
  simp only [rowValid, Bool.and_eq_true, inB_iff] at h1
  exact ⟨h1.1.1, h1.1.2, h1.2⟩
theorem seg_self (rs : List Row) (a : Nat) : seg rs a a = 0 := by simp [seg, sumH]
theorem seg_succ {rs : List Row} {a k : Nat} {r : Row} (ha : a ≤ k) (h : rs[k]? = some r) : seg rs a (k + 1) = seg rs a k + r.h := by
  unfold seg
  have h1 : (rs.drop a)[k - a]? = some r := by rw [List.getElem?_drop, show a + (k - a) = k by omega]; exact h
  rw [show k + 1 - a = (k - a) + 1 by omega, sumH_snoc h1]
theorem openPg_ok {rs : List Row} {h : Int} {D : List Int} {N : Int} {s : Bk} (hh : 1 ≤ h ∧ h ≤ 1000) (hs : BkOk rs h D N s) : PgOk rs h D N s.at_ (openPg rs h s) := by
  have hl := hs.left
  have hn := hs.notes
  have hr := nTake_room rs s.wait (h - min s.left h) (by omega)
  refine ⟨hs.at_, Nat.le_refl _, ?_, ?_, ?_, ?_, ?_, ?_⟩ <;> dsimp only [openPg]
  · omega
  · rw [List.append_assoc, List.take_append_drop]; exact hs.figs
  · omega
  · omega
  · rw [seg_self]; omega
  · exact hr
theorem PgOk.room_le {rs : List Row} {h : Int} {D : List Int} {N : Int} {a : Nat} {p : Pg} (hv : rs.all rowValid = true) (hp : PgOk rs h D N a p) : p.room ≤ h := by
  have h1 := hp.room
  have h2 := (figsF_bd hv p.figs).1
  have h3 := sumH_bd (rs := (rs.drop a).take (p.at_ - a)) (all_sub hv (fun r hr => List.mem_of_mem_drop (List.mem_of_mem_take hr)))
  have h4 : 0 ≤ seg rs a p.at_ := h3.1
  have h5 := hp.notes0
  omega
theorem addRow_ok {rs : List Row} {h : Int} {D : List Int} {N : Int} {a : Nat} {p : Pg} {r : Row} (hv : rs.all rowValid = true) (hh : 1 ≤ h ∧ h ≤ 1000) (hp : PgOk rs h D N a p) (hl : p.left = 0) (hr : rs[p.at_]? = some r) (hst : ¬ stops a r p) :
    PgOk rs h D N a (addRow r p) ∧ (addRow r p).at_ = p.at_ + 1 ∧ (addRow r p).wait.length ≤ p.wait.length + 1 := by
  obtain ⟨⟨b1, b2⟩, ⟨b3, b4⟩, b5, b6⟩ := row_bd hv hr
  have hlt := get_lt hr
  have h1 : r.h ≤ p.room := by
    unfold stops at hst
    have := hp.room0
    omega
  have hsg := seg_succ hp.from_ hr
  have hsn := sumN_snoc hr
  have hn := hp.notes
  have hn0 := hp.notes0
  have hrm := hp.room
  have hfl := figList_succ rs p.at_
  rw [figF_get hr] at hfl
  have hfg := hp.figs
  have h30 : p.room ≤ h := by
    have h31 := sumH_bd (rs := (rs.drop a).take (p.at_ - a)) (all_sub hv (fun r hr => List.mem_of_mem_drop (List.mem_of_mem_take hr)))
    have h32 := (figsF_bd hv p.figs).1
    have h33 : 0 ≤ seg rs a p.at_ := h31.1
    omega
  have hNB : p.notes + min r.n (p.room - r.h) ≤ 1000 := by
    have h31 := sumH_bd (rs := (rs.drop a).take (p.at_ - a)) (all_sub hv (fun r hr => List.mem_of_mem_drop (List.mem_of_mem_take hr)))
    have h32 := (figsF_bd hv p.figs).1
    have h33 : 0 ≤ seg rs a p.at_ := h31.1
    omega
  have hfr := hp.from_
  unfold addRow
  split
  · rename_i hf
    rw [if_pos hf] at hfl
    split
    · rename_i hw
      refine ⟨⟨?_, ?_, ?_, ?_, ?_, ?_, ?_, ?_⟩, rfl, by simp⟩ <;> dsimp only
      · omega
      · omega
      · omega
      · rw [hfl, ← hfg, hw.1]; simp
      · omega
      · omega
      · rw [figsF_append, figsF_one, figF_get hr, hsg]; omega
      · omega
    · refine ⟨⟨?_, ?_, ?_, ?_, ?_, ?_, ?_, ?_⟩, rfl, by simp⟩ <;> dsimp only
      · omega
      · omega
      · omega
      · rw [hfl, ← hfg]; simp
      · omega
      · omega
      · rw [hsg]; omega
      · omega
  · rename_i hf
    rw [if_neg hf, List.append_nil] at hfl
    refine ⟨⟨?_, ?_, ?_, ?_, ?_, ?_, ?_, ?_⟩, rfl, by simp⟩ <;> dsimp only
    · omega
    · omega
    · omega
    · rw [hfl, ← hfg]
    · omega
    · omega
    · rw [hsg]; omega
    · omega
theorem fillPg_ok {rs : List Row} {h : Int} {D : List Int} {N : Int} {a : Nat} (hv : rs.all rowValid = true) (hh : 1 ≤ h ∧ h ≤ 1000) : ∀ (f : Nat) (p : Pg), PgOk rs h D N a p →
    PgOk rs h D N a (fillPg rs a f p) ∧ msr rs (endPg (fillPg rs a f p)) ≤ msr rs (endPg p)
  | 0, p, hp => ⟨hp, Nat.le_refl _⟩
  | f + 1, p, hp => by
    rw [fillPg]
    split
    · rename_i hl
      split
      · rename_i r hr
        split
        · exact ⟨hp, Nat.le_refl _⟩
        · rename_i hst
          obtain ⟨h1, h2, h3⟩ := addRow_ok hv hh hp hl hr hst
          obtain ⟨h4, h5⟩ := fillPg_ok hv hh f (addRow r p) h1
          refine ⟨h4, Nat.le_trans h5 ?_⟩
          have := get_lt hr
          have := h1.left
          unfold msr endPg; dsimp only
          rw [h2]; omega
      · exact ⟨hp, Nat.le_refl _⟩
    · exact ⟨hp, Nat.le_refl _⟩
theorem endPg_ok {rs : List Row} {h : Int} {D : List Int} {N : Int} {a : Nat} {p : Pg} (hp : PgOk rs h D N a p) : BkOk rs h (D ++ p.figs) (N + p.notes) (endPg p) :=
  ⟨hp.at_, hp.left, hp.figs, hp.notes⟩
theorem figF_low {rs : List Row} {h : Int} (hh : 1 ≤ h) (hlo : lowOk rs h = true) (x : Int) : figF rs x ≤ h := by
  unfold figF
  split
  · rename_i r hr
    have := List.all_eq_true.1 hlo r (List.mem_of_getElem? hr)
    simp at this; omega
  · omega
/-- Every page is one step nearer to the end. -/
theorem page_less {rs : List Row} {h : Int} {D : List Int} {N : Int} {s : Bk} (hv : rs.all rowValid = true) (hh : 1 ≤ h ∧ h ≤ 1000) (hlo : lowOk rs h = true) (hs : BkOk rs h D N s) (hm : more rs s = true) :
    msr rs (endPg (pageOf rs h s)) < msr rs s := by
  have ho := openPg_ok hh hs
  have hl := hs.left
  have hln := nTake_le rs s.wait (h - min s.left h)
  have hne : msr rs (endPg (openPg rs h s)) ≤ msr rs s := by
    unfold msr endPg openPg; dsimp only; rw [List.length_drop]; omega
  have hf := fillPg_ok (a := s.at_) hv hh rs.length _ ho
  unfold pageOf
  by_cases h1 : 0 < s.left
  · refine Nat.lt_of_le_of_lt hf.2 ?_
    unfold msr endPg openPg; dsimp only; rw [List.length_drop]; omega
  · have h0 : s.left = 0 := by omega
    cases hw : s.wait with
    | cons x t =>
      refine Nat.lt_of_le_of_lt hf.2 ?_
      have hx := figF_low hh.1 hlo x
      have hk : 0 < nTake rs s.wait (h - min s.left h) := by rw [hw, nTake, if_pos (by omega)]; omega
      rw [hw] at hk hln
      have := hs.at_
      unfold msr endPg openPg; dsimp only; rw [hw, List.length_drop]; omega
    | nil =>
      have hat : s.at_ < rs.length := by
        unfold more at hm; simp [hw] at hm; omega
      obtain ⟨r, hr⟩ : ∃ r, rs[s.at_]? = some r := ⟨_, List.getElem?_eq_getElem hat⟩
      obtain ⟨n, hn⟩ : ∃ n, rs.length = n + 1 := ⟨rs.length - 1, by omega⟩
      have hop : (openPg rs h s).left = 0 ∧ (openPg rs h s).at_ = s.at_ ∧ (openPg rs h s).room = h ∧ (openPg rs h s).wait = [] := by
        unfold openPg; dsimp only; rw [hw, h0]; simp [nTake, figsF_nil]; omega
      have hst : ¬ stops s.at_ r (openPg rs h s) := by
        unfold stops; rw [hop.2.1, hop.2.2.1]
        have := List.all_eq_true.1 hlo r (List.mem_of_getElem? hr)
        simp at this; omega
      obtain ⟨a1, a2, a3⟩ := addRow_ok hv hh ho hop.1 (by rw [hop.2.1]; exact hr) hst
      have hf2 := fillPg_ok (a := s.at_) hv hh n _ a1
      have e : fillPg rs s.at_ rs.length (openPg rs h s) = fillPg rs s.at_ n (addRow r (openPg rs h s)) := by
        rw [hn, fillPg, if_pos hop.1, hop.2.1, hr]; dsimp only; rw [if_neg hst]
      rw [e]
      refine Nat.lt_of_le_of_lt hf2.2 ?_
      have := a1.left
      rw [hop.2.2.2] at a3
      unfold msr endPg; dsimp only
      rw [a2, hop.2.1]; simp at a3; omega
theorem pageOf_ok {rs : List Row} {h : Int} {D : List Int} {N : Int} {s : Bk} (hv : rs.all rowValid = true) (hh : 1 ≤ h ∧ h ≤ 1000) (hs : BkOk rs h D N s) : PgOk rs h D N s.at_ (pageOf rs h s) := (fillPg_ok hv hh _ _ (openPg_ok hh hs)).1
/-! ### what the functions compute, as steps -/
theorem fill_stop {rs : List Row} {a f : Nat} {p : Pg} (h : p.left ≠ 0 ∨ rs.length ≤ p.at_ ∨ ∃ r, rs[p.at_]? = some r ∧ stops a r p) : fillPg rs a f p = p := by
  cases f with
  | zero => rfl
  | succ f =>
    rw [fillPg]
    split
    · rename_i hl
      split
      · rename_i r hr
        split
        · rfl
        · rename_i hst
          rcases h with h | h | ⟨q, h1, h2⟩
          · exact absurd hl h
          · have := get_lt hr; omega
          · rw [hr] at h1; injection h1 with h1; subst h1; exact absurd h2 hst
      · rfl
    · rfl
theorem fill_step {rs : List Row} {a f : Nat} {p : Pg} {r : Row} (hl : p.left = 0) (hr : rs[p.at_]? = some r) (hst : ¬ stops a r p) : fillPg rs a (f + 1) p = fillPg rs a f (addRow r p) := by
  rw [fillPg, if_pos hl, hr]; dsimp only; rw [if_neg hst]
theorem more_iff {rs : List Row} {s : Bk} : more rs s = true ↔ s.at_ < rs.length ∨ 0 < s.left ∨ s.wait ≠ [] := by simp [more]
theorem make_stop {rs : List Row} {h : Int} {f : Nat} {s : Bk} (hm : more rs s = false) : makeGo rs h f s = [] := by
  cases f with
  | zero => rfl
  | succ f => rw [makeGo, hm]; rfl
theorem make_step {rs : List Row} {h : Int} {f : Nat} {s : Bk} (hm : more rs s = true) : makeGo rs h (f + 1) s = leafOf s (pageOf rs h s) :: makeGo rs h f (endPg (pageOf rs h s)) := by
  rw [makeGo, hm]; rfl
theorem makeGo_len (rs : List Row) (h : Int) : ∀ (f : Nat) (s : Bk), (makeGo rs h f s).length ≤ f
  | 0, _ => Nat.le_refl _
  | f + 1, s => by
    rw [makeGo]; split
    · have := makeGo_len rs h f (endPg (pageOf rs h s)); simp; omega
    · simp
theorem start_ok (rs : List Row) (h : Int) : BkOk rs h [] 0 ⟨0, 0, []⟩ := ⟨Nat.zero_le _, by simp, by simp [figList], by simp [sumN]⟩
end Go.Proofs.Ytfflnkkhemaanaa
