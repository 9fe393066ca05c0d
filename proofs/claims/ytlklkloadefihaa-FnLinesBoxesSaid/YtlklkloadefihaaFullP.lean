/- Lines that are set, in plain words: the width of their glues together; full lines; boxes side by side. No condition. -/
import Derived.Test.YtlklkloadefihaaMplb
namespace Go.Proofs.Ytlklkloadefihaa
open Go.RowKit
set_option linter.unusedVariables false

/-! ### the sum of set glues -/
def uSum (u : Gl → Int) (gs : List Gl) : Int := (gs.map u).sum
theorem setGo_sum (need all sgn : Int) (u : Gl → Int) : ∀ (gs : List Gl) (b : Int), (setGo need all sgn u b gs).sum = gW gs + sgn * ((need * (b + uSum u gs)).tdiv all - (need * b).tdiv all)
  | [], b => by simp [setGo, gW, uSum]
  | g :: t, b => by
    rw [setGo, List.sum_cons, setGo_sum need all sgn u t]
    have e1 : b + u g + uSum u t = b + uSum u (g :: t) := by simp [uSum]; omega
    have e2 : gW (g :: t) = g.w + gW t := by simp [gW]
    rw [e1, e2, Int.mul_sub, Int.mul_sub, Int.mul_sub]
    omega
theorem uSum_st (od : Int) (gs : List Gl) : uSum (useOf false od) gs = gSt od gs := rfl
theorem uSum_sh (od : Int) (gs : List Gl) : uSum (useOf true od) gs = gSh gs := rfl
theorem tdiv_full {need all : Int} (h : 0 < all) : (need * all).tdiv all = need := Int.mul_tdiv_cancel _ (by omega)
/-- The widths of glues that are set, together. -/
theorem setWs_sum {gs : List Gl} {width : Int} : (setWs gs width).sum =
    if gW gs ≤ width then (if gSt (gOd gs) gs = 0 then gW gs else width) else (if gSh gs = 0 then gW gs else gW gs - min (gW gs - width) (gSh gs)) := by
  have e1 : (gTot gs).w = gW gs := rfl
  have e2 : (gTot gs).st = gSt (gOd gs) gs := rfl
  have e3 : (gTot gs).sh = gSh gs := rfl
  have e4 : (gTot gs).od = gOd gs := rfl
  rw [setWs, setGo_sum, setPar, e1, e2, e3, e4]
  have z : ∀ x : Int, (0 * x).tdiv 1 = 0 := fun x => by rw [Int.zero_mul, Int.zero_tdiv]
  have z2 : ∀ x y : Int, (x * 0).tdiv y = 0 := fun x y => by rw [Int.mul_zero, Int.zero_tdiv]
  split
  · split
    · dsimp only; rw [z, z]; omega
    · rename_i h
      dsimp only
      rw [uSum_st, Int.zero_add, z2, Int.mul_tdiv_cancel _ h]; omega
  · split
    · dsimp only; rw [z, z]; omega
    · rename_i h
      dsimp only
      rw [uSum_sh, Int.zero_add, z2, Int.mul_tdiv_cancel _ h]; omega
/-! ### no glue is negative -/
theorem part_step {need all b u : Int} (hn : 0 ≤ need) (hna : need ≤ all) (ha : 1 ≤ all) (hb : 0 ≤ b) (hu : 0 ≤ u) : (need * b).tdiv all ≤ (need * (b + u)).tdiv all ∧ (need * (b + u)).tdiv all ≤ (need * b).tdiv all + u := by
  have p0 : 0 ≤ need * b := Int.mul_nonneg hn hb
  have p1 : 0 ≤ need * (b + u) := Int.mul_nonneg hn (by omega)
  rw [Int.tdiv_eq_ediv_of_nonneg p0, Int.tdiv_eq_ediv_of_nonneg p1]
  have e : need * (b + u) = need * b + need * u := Int.mul_add _ _ _
  have n0 : 0 ≤ need * u := Int.mul_nonneg hn hu
  have n1 : need * u ≤ u * all := by rw [Int.mul_comm u all]; exact Int.mul_le_mul_of_nonneg_right hna hu
  refine ⟨Int.ediv_le_ediv (by omega) (by omega), ?_⟩
  have h1 : (need * b + u * all) / all = need * b / all + u := Int.add_mul_ediv_right _ _ (by omega)
  rw [← h1]
  exact Int.ediv_le_ediv (by omega) (by omega)
theorem part_mono {need all b u : Int} (hn : 0 ≤ need) (ha : 1 ≤ all) (hb : 0 ≤ b) (hu : 0 ≤ u) : (need * b).tdiv all ≤ (need * (b + u)).tdiv all := by
  have p0 : 0 ≤ need * b := Int.mul_nonneg hn hb
  have p1 : 0 ≤ need * (b + u) := Int.mul_nonneg hn (by omega)
  rw [Int.tdiv_eq_ediv_of_nonneg p0, Int.tdiv_eq_ediv_of_nonneg p1]
  have n0 : 0 ≤ need * u := Int.mul_nonneg hn hu
  exact Int.ediv_le_ediv (by omega) (by rw [Int.mul_add]; omega)
theorem setGo_nn {need all sgn od : Int} {neg : Bool} (hn : 0 ≤ need) (ha : 1 ≤ all) (hs : (sgn = 1) ∨ (sgn = -1 ∧ neg = true ∧ need ≤ all)) : ∀ (gs : List Gl) (b : Int), gs.all Gl.ok = true → 0 ≤ b → ∀ y ∈ setGo need all sgn (useOf neg od) b gs, 0 ≤ y
  | [], b, _, _ => by simp [setGo]
  | g :: t, b, hok, hb => by
    rw [List.all_cons, Bool.and_eq_true] at hok
    have hu := useOf_bd (neg := neg) (od := od) hok.1
    have hg := Gl.ok_iff.1 hok.1
    intro y hy
    rw [setGo] at hy
    rcases List.mem_cons.1 hy with rfl | hy
    · rcases hs with rfl | ⟨rfl, rfl, hna⟩
      · have := part_mono hn ha hb hu.1
        rw [Int.one_mul]; omega
      · have := part_step hn hna ha hb hu.1
        have e : useOf true od g = g.sh := rfl
        rw [Int.neg_one_mul]; omega
    · exact setGo_nn hn ha hs t _ hok.2 (by omega) y hy
theorem setWs_nn {gs : List Gl} {width : Int} (hok : gs.all Gl.ok = true) : ∀ y ∈ setWs gs width, 0 ≤ y := by
  have b := gSt_bd (o := gOd gs) hok
  have c := gSh_bd hok
  unfold setWs
  have e1 : (gTot gs).w = gW gs := rfl
  have e2 : (gTot gs).st = gSt (gOd gs) gs := rfl
  have e3 : (gTot gs).sh = gSh gs := rfl
  have H : 0 ≤ (setPar (gTot gs) width).need ∧ 1 ≤ (setPar (gTot gs) width).all ∧ (((setPar (gTot gs) width).sgn = 1) ∨ ((setPar (gTot gs) width).sgn = -1 ∧ (setPar (gTot gs) width).neg = true ∧ (setPar (gTot gs) width).need ≤ (setPar (gTot gs) width).all)) := by
    unfold setPar
    rw [e1, e2, e3]
    split
    · split
      · exact ⟨by simp, by simp, .inl rfl⟩
      · exact ⟨by dsimp only; omega, by dsimp only; omega, .inl rfl⟩
    · split
      · exact ⟨by simp, by simp, .inr ⟨rfl, rfl, by dsimp only; omega⟩⟩
      · exact ⟨by dsimp only; omega, by dsimp only; omega, .inr ⟨rfl, rfl, by dsimp only; omega⟩⟩
  exact setGo_nn H.1 H.2.1 H.2.2 gs 0 hok (by omega)
/-! ### boxes side by side -/
def SideBy (rs : List Item) (z : Int) : Int → List Placed → Prop
  | x, [] => x ≤ z
  | x, p :: t => x ≤ p.place ∧ SideBy rs z (p.place + (itAt rs p.at_.toNat).w) t
theorem SideBy.le {rs : List Item} {z : Int} (hw : ∀ n, 0 ≤ (itAt rs n).w) : ∀ {ps : List Placed} {x : Int}, SideBy rs z x ps → x ≤ z
  | [], _, h => h
  | p :: t, x, h => by have := SideBy.le hw h.2; have := hw p.at_.toNat; have := h.1; omega
theorem SideBy.less {rs : List Item} {z : Int} : ∀ {ps : List Placed} {x y : Int}, SideBy rs z x ps → y ≤ x → SideBy rs z y ps
  | [], _, _, h, hy => by have : _ ≤ z := h; show _ ≤ z; omega
  | p :: t, x, y, h, hy => ⟨by have := h.1; omega, h.2⟩
theorem SideBy.get {rs : List Item} {z : Int} (hw : ∀ n, 0 ≤ (itAt rs n).w) : ∀ {ps : List Placed} {x : Int}, SideBy rs z x ps → ∀ {k : Nat} {p : Placed}, ps[k]? = some p →
    x ≤ p.place ∧ p.place + (itAt rs p.at_.toNat).w ≤ z ∧ ∀ q, ps[k + 1]? = some q → p.place + (itAt rs p.at_.toNat).w ≤ q.place
  | [], _, _, _, _, hk => by simp at hk
  | p :: t, x, h, 0, q, hk => by
    simp at hk; subst hk
    refine ⟨h.1, SideBy.le hw h.2, fun r hr => ?_⟩
    cases t with
    | nil => simp at hr
    | cons a t => simp at hr; subst hr; exact h.2.1
  | p :: t, x, h, k + 1, q, hk => by
    have := SideBy.get hw h.2 (k := k) (p := q) (by simpa using hk)
    refine ⟨?_, this.2.1, fun r hr => this.2.2 r (by simpa using hr)⟩
    have := hw p.at_.toNat; have := h.1; omega
theorem itAt_w {rs : List Item} (h : rs.all itemValid = true) (n : Nat) : 0 ≤ (itAt rs n).w := by
  rcases Nat.lt_or_ge n rs.length with hn | hn
  · have := (Gl.ok_iff.1 (item_gl_ok (itAt_valid h hn))).1.1
    exact this
  · simp [itAt, List.getElem?_eq_none hn]
theorem placeGo_side {rs : List Item} (hw : ∀ n, 0 ≤ (itAt rs n).w) : ∀ (l : List Nat) (ws : List Int) (x : Int), (∀ y ∈ ws, 0 ≤ y) → SideBy rs (placeGo rs ws x l).2 x (placeGo rs ws x l).1
  | [], ws, x, _ => Int.le_refl _
  | n :: t, ws, x, h => by
    rw [placeGo]
    split
    · have h0 : 0 ≤ ws.headD 0 := by
        cases ws with
        | nil => simp
        | cons a t => exact h a (by simp)
      exact (placeGo_side hw t (ws.drop 1) _ (fun y hy => h y (List.mem_of_mem_drop hy))).less (by omega)
    · exact ⟨Int.le_refl _, by simpa using placeGo_side hw t ws (x + (itAt rs n).w) h⟩
theorem placeGo_at {rs : List Item} : ∀ (l : List Nat) (ws : List Int) (x : Int), (placeGo rs ws x l).1.map Placed.at_ = ints (l.filter fun n => !decide ((itAt rs n).kind = 2))
  | [], ws, x => rfl
  | n :: t, ws, x => by
    rw [placeGo]
    split
    · rename_i h; rw [placeGo_at t]; simp [h]
    · rename_i h; simp [h, placeGo_at t, ints]
theorem placeGo_sum {rs : List Item} : ∀ (l : List Nat) (ws : List Int) (x : Int), ws.length = (glsOf rs l).length → (placeGo rs ws x l).2 = x + ws.sum + boxW rs l
  | [], ws, x, h => by
    have : ws = [] := List.eq_nil_of_length_eq_zero (by simpa [glsOf] using h)
    subst this; simp [placeGo, boxW]
  | n :: t, ws, x, h => by
    have hd := glsOf_drop (rs := rs) (l := n :: t) (k := 0) (n := n) rfl
    simp only [List.drop_zero, Nat.zero_add, List.drop_succ_cons] at hd
    rw [placeGo]
    split
    · rename_i hk
      rw [if_pos hk] at hd
      cases ws with
      | nil => rw [← h] at hd; simp at hd; omega
      | cons a u =>
        rw [placeGo_sum t _ _ (by simp at h ⊢; omega)]
        simp [boxW, boxOf, hk]; omega
    · rename_i hk
      rw [if_neg hk] at hd
      dsimp only
      rw [placeGo_sum t _ _ (by omega)]
      simp [boxW, boxOf, hk]; omega
/-! ### the line's glue -/
theorem kind_of {r : Item} (h : itemValid r = true) : r.kind = 1 ∨ r.kind = 2 ∨ r.kind = 3 := by
  simp only [itemValid, Bool.and_eq_true] at h
  obtain ⟨_, h⟩ := h
  split at h
  · left; assumption
  · split at h
    · right; left; assumption
    · split at h
      · right; right; assumption
      · cases h
theorem rigid_of {r : Item} (h : itemValid r = true) (hk : r.kind ≠ 2) : r.st = 0 ∧ r.sh = 0 ∧ r.od = 0 := by
  have hr : r.rigid = true := by
    simp only [itemValid, Bool.and_eq_true] at h
    obtain ⟨_, h⟩ := h
    by_cases h1 : r.kind = 1
    · rw [if_pos h1, Bool.and_eq_true] at h; exact h.1
    · rw [if_neg h1, if_neg hk] at h
      by_cases h3 : r.kind = 3
      · rw [if_pos h3, Bool.and_eq_true] at h; exact h.1
      · rw [if_neg h3] at h; cases h
  simp only [Item.rigid, Bool.and_eq_true, decide_eq_true_eq] at hr
  exact hr
theorem glsOf_cons (rs : List Item) (n : Nat) (t : List Nat) : glsOf rs (n :: t) = if (itAt rs n).kind = 2 then (itAt rs n).gl :: glsOf rs t else glsOf rs t := by
  by_cases h : (itAt rs n).kind = 2 <;> simp [glsOf, h]
theorem gls_parts {rs : List Item} : ∀ (l : List Nat), (∀ n ∈ l, itemValid (itAt rs n) = true) → (gW (l.map fun n => (itAt rs n).gl) = gW (glsOf rs l) + boxW rs l ∧ gSh (l.map fun n => (itAt rs n).gl) = gSh (glsOf rs l) ∧
    gAny (l.map fun n => (itAt rs n).gl) = gAny (glsOf rs l) ∧ ∀ o, gSt o (l.map fun n => (itAt rs n).gl) = gSt o (glsOf rs l))
  | [], _ => by simp [glsOf, boxW, gW, gSh, gAny, gSt]
  | n :: t, h => by
    obtain ⟨i1, i2, i3, i4⟩ := gls_parts t (fun m hm => h m (List.mem_cons_of_mem _ hm))
    rw [glsOf_cons]
    by_cases hk : (itAt rs n).kind = 2
    · rw [if_pos hk]
      refine ⟨?_, ?_, ?_, fun o => ?_⟩
      · simp only [gW, boxW, boxOf, List.map_cons, List.sum_cons, if_pos hk] at i1 ⊢; omega
      · simp only [gSh, List.map_cons, List.sum_cons] at i2 ⊢; omega
      · simp only [gAny, List.map_cons, List.any_cons] at i3 ⊢; rw [i3]
      · have := i4 o; simp only [gSt, List.map_cons, List.sum_cons] at this ⊢; omega
    · rw [if_neg hk]
      obtain ⟨r1, r2, r3⟩ := rigid_of (h n (by simp)) hk
      refine ⟨?_, ?_, ?_, fun o => ?_⟩
      · simp only [gW, boxW, boxOf, List.map_cons, List.sum_cons, if_neg hk, Item.gl] at i1 ⊢; omega
      · simp only [gSh, List.map_cons, List.sum_cons, Item.gl, r2] at i2 ⊢; omega
      · simp only [gAny, List.map_cons, List.any_cons] at i3 ⊢; rw [i3]; simp [gHas, Item.gl, r1]
      · have := i4 o; simp only [gSt, List.map_cons, List.sum_cons] at this ⊢
        have e : gPart o (itAt rs n).gl = 0 := by unfold gPart; simp [Item.gl, r1]
        omega
theorem lineL_valid {rs : List Item} {after to : Int} (hv : rs.all itemValid = true) (hl : lineOk rs after to = true) : ∀ n ∈ lineL rs after to, n < rs.length ∧ itemValid (itAt rs n) = true := by
  intro n hn
  have hb := lineOk_bd hl
  have := idxs_mem (rs := rs) hn
  exact ⟨by omega, itAt_valid hv (by omega)⟩
theorem lineTot_parts {rs : List Item} {after to : Int} (hv : rs.all itemValid = true) (hl : lineOk rs after to = true) :
    (lineTot rs after to).w = gW (glsOf rs (lineL rs after to)) + boxW rs (lineL rs after to) + endW rs to.toNat ∧ (lineTot rs after to).sh = gSh (glsOf rs (lineL rs after to)) ∧
    (lineTot rs after to).od = gOd (glsOf rs (lineL rs after to)) ∧ (lineTot rs after to).st = gSt (gOd (glsOf rs (lineL rs after to))) (glsOf rs (lineL rs after to)) := by
  obtain ⟨i1, i2, i3, i4⟩ := gls_parts (rs := rs) (lineL rs after to) (fun n hn => (lineL_valid hv hl n hn).2)
  have hb := lineOk_bd hl
  have e0 : lineGls rs (startOf rs (after + 1).toNat) to.toNat = (lineL rs after to).map fun n => (itAt rs n).gl := rfl
  unfold lineTot
  rw [e0]
  obtain ⟨G, hG⟩ : ∃ G, (lineL rs after to).map (fun n => (itAt rs n).gl) = G := ⟨_, rfl⟩
  rw [hG] at i1 i2 i3 i4 ⊢
  unfold endGl endW
  by_cases hk : (itAt rs to.toNat).kind = 3
  · rw [if_pos hk, if_pos hk]
    obtain ⟨r1, r2, r3⟩ := rigid_of (itAt_valid hv (show to.toNat < rs.length by omega)) (by omega)
    have a0 : gAny (G ++ [(itAt rs to.toNat).gl]) = gAny (glsOf rs (lineL rs after to)) := by rw [gAny_snoc, i3]; simp [gHas, Item.gl, r1]
    have a1 : gOd (G ++ [(itAt rs to.toNat).gl]) = gOd (glsOf rs (lineL rs after to)) := by unfold gOd; rw [a0]
    refine ⟨?_, ?_, a1, ?_⟩
    · show gW _ = _; rw [gW_snoc, i1]; rfl
    · show gSh _ = _; rw [gSh_snoc, i2]; simp [Item.gl, r2]
    · show gSt _ _ = _; rw [a1, gSt_snoc, i4]; unfold gPart; simp [Item.gl, r1]
  · rw [if_neg hk, if_neg hk, List.append_nil]
    have a1 : gOd G = gOd (glsOf rs (lineL rs after to)) := by unfold gOd; rw [i3]
    refine ⟨?_, i2, a1, ?_⟩
    · show gW _ = _; omega
    · show gSt _ _ = _; rw [a1, i4]
theorem setX_eq {rs : List Item} {after to width : Int} (h : okS rs after to width = true) : setX rs after to width = (setWs (glsOf rs (lineL rs after to)) (max 0 (width - endW rs to.toNat - boxW rs (lineL rs after to)))).sum + boxW rs (lineL rs after to) + endW rs to.toNat := by
  unfold setX
  rw [if_pos h, placeGo_sum]
  · unfold lineWs; omega
  · unfold lineWs; exact setWs_len _ _
theorem boxW_nn {rs : List Item} (hw : ∀ n, 0 ≤ (itAt rs n).w) : ∀ (l : List Nat), 0 ≤ boxW rs l
  | [] => by simp [boxW]
  | n :: t => by
    have := boxW_nn hw t
    have := hw n
    simp only [boxW, List.map_cons, List.sum_cons, boxOf] at this ⊢
    split <;> (simp only [boxW] at *; omega)
/-- A line whose badness is not the greatest is full. -/
theorem isFull_bad {rs : List Item} {after to width : Int} (h0 : 0 ≤ (lineBad rs after to width).1) (h1 : (lineBad rs after to width).1 < 10000) : isFull rs after to width = true := by
  have hf := lineBad_fits h0
  obtain ⟨hv, hl, hw0, hw1⟩ := fitsB_iff.1 hf
  have hk : okL rs after to = true := okL_iff.2 ⟨hv, hl⟩
  have hs : okS rs after to width = true := by simp [okS, hk, inB, hw0, hw1]
  obtain ⟨hv1, _⟩ := itemsValid_iff.1 hv
  obtain ⟨p1, p2, p3, p4⟩ := lineTot_parts hv1 hl
  have hok := glsOf_ok (l := lineL rs after to) hv1 (fun n hn => (lineL_valid hv1 hl n hn).1)
  have b := gSt_bd (o := gOd (glsOf rs (lineL rs after to))) hok
  have c := gSh_bd hok
  have c2 := gSh_le hok
  have a := gW_bd hok
  have hsome : gOd (glsOf rs (lineL rs after to)) = 1 → 0 < gSt (gOd (glsOf rs (lineL rs after to))) (glsOf rs (lineL rs after to)) := fun h => by
    rw [h]; apply gSt_some hok
    unfold gOd at h; split at h
    · assumption
    · omega
  unfold isFull
  rw [hs, Bool.true_and, decide_eq_true_eq, setX_eq hs, setWs_sum]
  rw [lineBad, hf] at h0 h1
  simp only [if_true, badOf] at h0 h1
  rw [p1, p2, p3, p4] at h0 h1
  obtain ⟨W, hW⟩ : ∃ W, gW (glsOf rs (lineL rs after to)) = W := ⟨_, rfl⟩
  obtain ⟨S, hS⟩ : ∃ S, gSt (gOd (glsOf rs (lineL rs after to))) (glsOf rs (lineL rs after to)) = S := ⟨_, rfl⟩
  obtain ⟨H, hH⟩ : ∃ H, gSh (glsOf rs (lineL rs after to)) = H := ⟨_, rfl⟩
  obtain ⟨X, hX⟩ : ∃ X, boxW rs (lineL rs after to) = X := ⟨_, rfl⟩
  obtain ⟨E, hE⟩ : ∃ E, endW rs to.toNat = E := ⟨_, rfl⟩
  obtain ⟨O, hO⟩ : ∃ O, gOd (glsOf rs (lineL rs after to)) = O := ⟨_, rfl⟩
  rw [hS, hO] at hsome
  rw [hW, hX, hE, hH, hS, hO] at h0 h1
  rw [hS] at b
  rw [hH, hW] at c2
  rw [hH] at c
  rw [hW] at a
  rw [hW, hX, hE, hH, hS]
  split at h1
  · rename_i hle
    rw [if_pos hle] at h0
    have hr : max 0 (width - E - X) = width - E - X := by omega
    rw [hr, if_pos (by omega)]
    split
    · rename_i hz
      split at h1
      · rename_i ho; have := hsome ho; omega
      · dsimp only at h1
        unfold badB at h1
        split at h1
        · omega
        · first | omega | (rw [if_pos hz] at h1; omega)
    · omega
  · rename_i hle
    split at h1
    · rename_i h2
      dsimp only at h1
      have hz : ¬ H = 0 := fun hz => by
        unfold badB at h1
        rw [if_neg (by omega), if_pos hz] at h1; omega
      have hr : max 0 (width - E - X) = width - E - X := by omega
      rw [hr, if_neg (by omega), if_neg hz]
      omega
    · rename_i h2
      rw [if_neg hle, if_neg h2] at h0
      dsimp only at h0; omega
/-- A line with the width of its glue is full. -/
theorem isFull_own {rs : List Item} {after to : Int} (hk : okL rs after to = true) (h1 : (lineTot rs after to).w ≤ 1000) : isFull rs after to (lineTot rs after to).w = true := by
  obtain ⟨hv, hl⟩ := okL_iff.1 hk
  have hb := lineTot_bd hv hl
  have hs : okS rs after to (lineTot rs after to).w = true := by simp [okS, hk, inB]; exact ⟨hb.1.1, h1⟩
  obtain ⟨hv1, _⟩ := itemsValid_iff.1 hv
  obtain ⟨p1, p2, p3, p4⟩ := lineTot_parts hv1 hl
  have hok := glsOf_ok (l := lineL rs after to) hv1 (fun n hn => (lineL_valid hv1 hl n hn).1)
  have a := gW_bd hok
  unfold isFull
  rw [hs, Bool.true_and, decide_eq_true_eq, setX_eq hs, setWs_sum, p1]
  have hr : max 0 (gW (glsOf rs (lineL rs after to)) + boxW rs (lineL rs after to) + endW rs to.toNat - endW rs to.toNat - boxW rs (lineL rs after to)) = gW (glsOf rs (lineL rs after to)) := by omega
  rw [hr, if_pos (Int.le_refl _)]
  split <;> omega
/-- The boxes of a line stand side by side. -/
theorem setPs_side {rs : List Item} {after to width : Int} (h : okS rs after to width = true) : SideBy rs (setX rs after to width) 0 (setPs rs after to width) := by
  have hk : okL rs after to = true := by simp only [okS, Bool.and_eq_true] at h; exact h.1
  obtain ⟨hv, hl⟩ := okL_iff.1 hk
  obtain ⟨hv1, _⟩ := itemsValid_iff.1 hv
  have hw := itAt_w hv1
  have hok := glsOf_ok (l := lineL rs after to) hv1 (fun n hn => (lineL_valid hv1 hl n hn).1)
  have hp := placeGo_side hw (lineL rs after to) (lineWs rs after to width) 0 (setWs_nn hok)
  unfold setX setPs
  rw [if_pos h, if_pos h]
  have e : 0 ≤ endW rs to.toNat := by unfold endW; split <;> first | exact hw _ | omega
  have more : ∀ (ps : List Placed) (z d x : Int), 0 ≤ d → SideBy rs z x ps → SideBy rs (z + d) x ps := by
    intro ps
    induction ps with
    | nil => intro z d x hd hx; have : x ≤ z := hx; show x ≤ z + d; omega
    | cons p t ih => intro z d x hd hx; exact ⟨hx.1, ih _ _ _ hd hx.2⟩
  exact more _ _ _ _ e hp
theorem setPs_at {rs : List Item} {after to width : Int} (h : okS rs after to width = true) : (setPs rs after to width).map Placed.at_ = ints ((lineL rs after to).filter fun n => !decide ((itAt rs n).kind = 2)) := by
  unfold setPs
  rw [if_pos h, placeGo_at]
theorem setPs_mem {rs : List Item} {after to width : Int} {p : Placed} (h : p ∈ setPs rs after to width) : 0 ≤ p.at_ ∧ p.at_ < rs.length := by
  cases hs : okS rs after to width
  · rw [(setPs_not hs).1] at h; simp at h
  · have hk : okL rs after to = true := by simp only [okS, Bool.and_eq_true] at hs; exact hs.1
    obtain ⟨hv, hl⟩ := okL_iff.1 hk
    obtain ⟨hv1, _⟩ := itemsValid_iff.1 hv
    have : p.at_ ∈ (setPs rs after to width).map Placed.at_ := List.mem_map.2 ⟨p, h, rfl⟩
    rw [setPs_at hs] at this
    simp only [ints, List.mem_map, List.mem_filter] at this
    obtain ⟨n, ⟨hn, _⟩, e⟩ := this
    have := (lineL_valid hv1 hl n hn).1
    have e' : p.at_ = (n : Int) := e.symm
    omega
end Go.Proofs.Ytlklkloadefihaa
