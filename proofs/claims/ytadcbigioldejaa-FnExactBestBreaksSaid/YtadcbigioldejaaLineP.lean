/- Glues and lines of items in plain words; laws of these words. No condition. -/
import Derived.Test.YtadcbigioldejaaGlue
namespace Go.Proofs.Ytadcbigioldejaa
open Go.RowKit
set_option linter.unusedVariables false

/-! ### glues -/
structure Gl where
  w : Int
  st : Int
  sh : Int
  od : Int
  deriving DecidableEq
def Gl.ok (g : Gl) : Bool := glueB g.w g.st g.sh g.od
theorem Gl.ok_iff {g : Gl} : g.ok = true ↔ (0 ≤ g.w ∧ g.w ≤ 1000) ∧ (0 ≤ g.st ∧ g.st ≤ 1000) ∧ (0 ≤ g.sh ∧ g.sh ≤ g.w) ∧ 0 ≤ g.od ∧ g.od ≤ 1 := by
  simp [Gl.ok, glueB, inB]
def gHas (g : Gl) : Bool := decide (g.od = 1) && decide (0 < g.st)
def gAny (l : List Gl) : Bool := l.any gHas
def gOd (l : List Gl) : Int := if gAny l then 1 else 0
def gW (l : List Gl) : Int := (l.map Gl.w).sum
def gSh (l : List Gl) : Int := (l.map Gl.sh).sum
def gPart (o : Int) (g : Gl) : Int := if g.od = o then g.st else 0
def gSt (o : Int) (l : List Gl) : Int := (l.map (gPart o)).sum
def gTot (l : List Gl) : Gl := ⟨gW l, gSt (gOd l) l, gSh l, gOd l⟩
theorem gAny_snoc (l : List Gl) (g : Gl) : gAny (l ++ [g]) = (gAny l || gHas g) := by simp [gAny]
theorem gW_snoc (l : List Gl) (g : Gl) : gW (l ++ [g]) = gW l + g.w := by simp [gW]
theorem gSh_snoc (l : List Gl) (g : Gl) : gSh (l ++ [g]) = gSh l + g.sh := by simp [gSh]
theorem gSt_snoc (o : Int) (l : List Gl) (g : Gl) : gSt o (l ++ [g]) = gSt o l + gPart o g := by simp [gSt]
theorem gPart_bd {o : Int} {g : Gl} (h : g.ok = true) : 0 ≤ gPart o g ∧ gPart o g ≤ 1000 := by
  rw [Gl.ok_iff] at h; unfold gPart; split <;> omega
theorem gl_bd {f : Gl → Int} (hf : ∀ g, g.ok = true → 0 ≤ f g ∧ f g ≤ 1000) : ∀ (l : List Gl), l.all Gl.ok = true → 0 ≤ (l.map f).sum ∧ (l.map f).sum ≤ 1000 * l.length
  | [], _ => by simp
  | g :: t, h => by
    rw [List.all_cons, Bool.and_eq_true] at h
    have a := hf g h.1
    have b := gl_bd hf t h.2
    simp only [List.map_cons, List.sum_cons, List.length_cons]
    omega
theorem gW_bd {l : List Gl} (h : l.all Gl.ok = true) : 0 ≤ gW l ∧ gW l ≤ 1000 * l.length := gl_bd (fun g hg => by rw [Gl.ok_iff] at hg; omega) l h
theorem gSh_bd {l : List Gl} (h : l.all Gl.ok = true) : 0 ≤ gSh l ∧ gSh l ≤ 1000 * l.length := gl_bd (fun g hg => by rw [Gl.ok_iff] at hg; omega) l h
theorem gSt_bd {o : Int} {l : List Gl} (h : l.all Gl.ok = true) : 0 ≤ gSt o l ∧ gSt o l ≤ 1000 * l.length := gl_bd (fun g hg => gPart_bd hg) l h
theorem gSh_le : ∀ {l : List Gl}, l.all Gl.ok = true → gSh l ≤ gW l
  | [], _ => by simp [gSh, gW]
  | g :: t, h => by
    rw [List.all_cons, Bool.and_eq_true] at h
    have a := Gl.ok_iff.1 h.1
    have b := gSh_le (l := t) h.2
    simp only [gSh, gW, List.map_cons, List.sum_cons] at b ⊢
    omega
theorem gSt_none : ∀ {l : List Gl}, l.all Gl.ok = true → gAny l = false → gSt 1 l = 0
  | [], _, _ => by simp [gSt]
  | g :: t, h, hn => by
    rw [List.all_cons, Bool.and_eq_true] at h
    have a := Gl.ok_iff.1 h.1
    simp only [gAny, List.any_cons, Bool.or_eq_false_iff] at hn
    have b := gSt_none (l := t) h.2 hn.2
    have c : gPart 1 g = 0 := by
      have := hn.1
      simp only [gHas, Bool.and_eq_false_iff, decide_eq_false_iff_not] at this
      unfold gPart; split <;> omega
    simp only [gSt, List.map_cons, List.sum_cons, c] at b ⊢
    omega
theorem gSt_some : ∀ {l : List Gl}, l.all Gl.ok = true → gAny l = true → 0 < gSt 1 l
  | [], _, hn => by simp [gAny] at hn
  | g :: t, h, hn => by
    rw [List.all_cons, Bool.and_eq_true] at h
    have a := Gl.ok_iff.1 h.1
    have p := gPart_bd (o := 1) h.1
    have q := gSt_bd (o := 1) h.2
    simp only [gAny, List.any_cons, Bool.or_eq_true] at hn
    simp only [gSt, List.map_cons, List.sum_cons] at q ⊢
    rcases hn with hn | hn
    · have c : gPart 1 g = g.st := by
        simp only [gHas, Bool.and_eq_true, decide_eq_true_eq] at hn
        unfold gPart; rw [if_pos hn.1]
      simp only [gHas, Bool.and_eq_true, decide_eq_true_eq] at hn
      omega
    · have b := gSt_some (l := t) h.2 hn
      simp only [gSt] at b
      omega
/-- The sum of two glues, as the reference reckons it. -/
def gAdd (a b : Gl) : Gl :=
  let x := if a.st = 0 then 0 else a.od
  let y := if b.st = 0 then 0 else b.od
  let o := max x y
  ⟨a.w + b.w, (if x = o then a.st else 0) + (if y = o then b.st else 0), a.sh + b.sh, o⟩
theorem gAdd_tot {l : List Gl} {g : Gl} (h : l.all Gl.ok = true) (hg : g.ok = true) : gAdd (gTot l) g = gTot (l ++ [g]) := by
  have a := Gl.ok_iff.1 hg
  have hod : g.od = 0 ∨ g.od = 1 := by omega
  simp only [gAdd, gTot, gOd, gAny_snoc, gW_snoc, gSh_snoc, gSt_snoc, Gl.mk.injEq, true_and]
  have b0 := gSt_bd (o := 0) h
  have m01 : max (0 : Int) 1 = 1 := rfl
  have m10 : max (1 : Int) 0 = 1 := rfl
  rcases (Bool.eq_false_or_eq_true (gAny l)).symm with hn | hn <;> simp only [hn]
  · have z := gSt_none h hn
    rcases hod with ho | ho
    · have hh : gHas g = false := by simp [gHas, ho]
      have hm : max (0 : Int) 0 = 0 := rfl
      simp [hh, ho, gPart, hm]
    · by_cases hs : g.st = 0
      · have hh : gHas g = false := by simp [gHas, hs]
        simp [hh, hs, gPart, ho]
      · have hh : gHas g = true := by simp [gHas, ho]; omega
        simp [hh, hs, gPart, ho, z, m01]
  · have z := gSt_some h hn
    have hz : ¬ gSt 1 l = 0 := by omega
    rcases hod with ho | ho
    · simp [ho, gPart, hz, m10]
    · by_cases hs : g.st = 0
      · simp [hs, gPart, ho, hz, m10]
      · simp [hs, gPart, ho, hz]

/-! ### lines -/
def Item.gl (r : Item) : Gl := ⟨r.w, r.st, r.sh, r.od⟩
def forcedB (r : Item) : Bool := decide (r.kind = 3) && decide (r.cost = -10000)
def skipB (r : Item) : Bool := !decide (r.kind = 1) && !forcedB r
def itAt (rs : List Item) (n : Nat) : Item := rs.getD n ⟨0, 0, 0, 0, 0, 0, false⟩
theorem itAt_of {rs : List Item} {n : Nat} {r : Item} (h : rs[n]? = some r) : itAt rs n = r := by simp [itAt, h]
theorem get_itAt {rs : List Item} {n : Nat} (h : n < rs.length) : rs[n]? = some (itAt rs n) := by simp [itAt, h]
def startOf (rs : List Item) (k : Nat) : Nat := k + ((rs.drop k).takeWhile skipB).length
theorem startOf_end {rs : List Item} {k : Nat} (h : rs.length ≤ k) : startOf rs k = k := by simp [startOf, List.drop_eq_nil_of_le h]
theorem startOf_stop {rs : List Item} {k : Nat} {r : Item} (h : rs[k]? = some r) (hs : skipB r = false) : startOf rs k = k := by
  simp [startOf, drop_get h, hs]
theorem startOf_go {rs : List Item} {k : Nat} {r : Item} (h : rs[k]? = some r) (hs : skipB r = true) : startOf rs k = startOf rs (k + 1) := by
  simp [startOf, drop_get h, hs]; omega
theorem startOf_ge (rs : List Item) (k : Nat) : k ≤ startOf rs k := by simp [startOf]
theorem startOf_le {rs : List Item} {k : Nat} (h : k ≤ rs.length) : startOf rs k ≤ rs.length := by
  have a := (List.takeWhile_sublist skipB (l := rs.drop k)).length_le
  have b : (rs.drop k).length = rs.length - k := List.length_drop
  simp only [startOf]; omega
def breakB (rs : List Item) (n : Nat) : Bool :=
  decide (n < rs.length) && (if (itAt rs n).kind = 2 then decide (0 < n) && decide ((itAt rs (n - 1)).kind = 1) else decide ((itAt rs n).kind = 3) && decide ((itAt rs n).cost < 10000))
def mayB (rs : List Item) (n : Int) : Bool := decide (0 ≤ n) && breakB rs n.toNat
theorem mayB_nat (rs : List Item) (n : Nat) : mayB rs (n : Int) = breakB rs n := by simp [mayB]
theorem breakB_lt {rs : List Item} {n : Nat} (h : breakB rs n = true) : n < rs.length := by
  simp only [breakB, Bool.and_eq_true, decide_eq_true_eq] at h; exact h.1
theorem mayB_bd {rs : List Item} {n : Int} (h : mayB rs n = true) : 0 ≤ n ∧ n < rs.length := by
  simp only [mayB, Bool.and_eq_true, decide_eq_true_eq] at h
  have := breakB_lt h.2
  omega
/-- No item from a on and before b is a forced break. -/
def noForced (rs : List Item) (a b : Nat) : Bool := ((rs.take b).drop a).all fun r => !forcedB r
theorem noForced_start (rs : List Item) (a : Nat) : noForced rs a a = true := by
  have : (rs.take a).drop a = [] := by apply List.drop_eq_nil_of_le; simp; omega
  simp [noForced, this]
theorem noForced_snoc {rs : List Item} {a b : Nat} {r : Item} (h : rs[b]? = some r) (hab : a ≤ b) : noForced rs a (b + 1) = (noForced rs a b && !forcedB r) := by
  have hb := get_lt h
  unfold noForced
  rw [take_snoc' h, List.drop_append_of_le_length (by simp; omega), List.all_append]
  simp
theorem noForced_not {rs : List Item} {a b k : Nat} {r : Item} (h : rs[k]? = some r) (ha : a ≤ k) (hb : k < b) (hf : forcedB r = true) : noForced rs a b = false := by
  unfold noForced
  rw [List.all_eq_false]
  refine ⟨r, ?_, by simp [hf]⟩
  apply List.mem_of_getElem? (i := k - a)
  rw [List.getElem?_drop, show a + (k - a) = k by omega, List.getElem?_take_of_lt hb, h]
def lineOk (rs : List Item) (after to : Int) : Bool :=
  (decide (after = -1) || mayB rs after) && (mayB rs to && (decide (after < to) && (decide ((startOf rs (after + 1).toNat : Int) ≤ to) && noForced rs (after + 1).toNat to.toNat)))
theorem lineOk_bd {rs : List Item} {after to : Int} (h : lineOk rs after to = true) : -1 ≤ after ∧ after < to ∧ to < rs.length := by
  simp only [lineOk, Bool.and_eq_true, Bool.or_eq_true, decide_eq_true_eq] at h
  obtain ⟨h1, h2, h3, _⟩ := h
  have := mayB_bd h2
  refine ⟨?_, h3, this.2⟩
  rcases h1 with h1 | h1
  · omega
  · have := mayB_bd h1; omega
/-- The numbers of the boxes and glues from s on and before b. -/
def idxs (rs : List Item) (s b : Nat) : List Nat := (List.range b).filter fun n => decide (s ≤ n) && !decide ((itAt rs n).kind = 3)
theorem idxs_start (rs : List Item) (s : Nat) : idxs rs s s = [] := by
  unfold idxs
  rw [List.filter_eq_nil_iff]
  intro n hn
  simp at hn ⊢
  omega
theorem idxs_take {rs : List Item} {s b : Nat} (hs : s ≤ b) (h : (itAt rs b).kind ≠ 3) : idxs rs s (b + 1) = idxs rs s b ++ [b] := by
  unfold idxs; rw [List.range_succ, List.filter_append]; simp [hs, h]
theorem idxs_skip {rs : List Item} {s b : Nat} (h : (itAt rs b).kind = 3) : idxs rs s (b + 1) = idxs rs s b := by
  unfold idxs; rw [List.range_succ, List.filter_append]; simp [h]
theorem idxs_mem {rs : List Item} {s b n : Nat} (h : n ∈ idxs rs s b) : s ≤ n ∧ n < b ∧ (itAt rs n).kind ≠ 3 := by
  simp [idxs] at h; exact ⟨h.2.1, h.1, h.2.2⟩
theorem idxs_len (rs : List Item) (s b : Nat) : (idxs rs s b).length ≤ b := by
  have := List.length_filter_le (fun n => decide (s ≤ n) && !decide ((itAt rs n).kind = 3)) (List.range b)
  simpa [idxs] using this
/-- The glues of a line. -/
def lineGls (rs : List Item) (s b : Nat) : List Gl := (idxs rs s b).map fun n => (itAt rs n).gl
def endGl (rs : List Item) (b : Nat) : List Gl := if (itAt rs b).kind = 3 then [(itAt rs b).gl] else []
def lineTot (rs : List Item) (after to : Int) : Gl := gTot (lineGls rs (startOf rs (after + 1).toNat) to.toNat ++ endGl rs to.toNat)
theorem item_gl_ok {r : Item} (h : itemValid r = true) : r.gl.ok = true := by
  simp only [itemValid, Bool.and_eq_true] at h; exact h.1
theorem itAt_valid {rs : List Item} {n : Nat} (h : rs.all itemValid = true) (hn : n < rs.length) : itemValid (itAt rs n) = true :=
  List.all_eq_true.1 h _ (mem_of_get (get_itAt hn))
theorem lineGls_ok {rs : List Item} {s b : Nat} (h : rs.all itemValid = true) (hb : b ≤ rs.length) : (lineGls rs s b).all Gl.ok = true := by
  rw [List.all_eq_true]
  intro g hg
  simp only [lineGls, List.mem_map] at hg
  obtain ⟨n, hn, rfl⟩ := hg
  have := idxs_mem hn
  exact item_gl_ok (itAt_valid h (by omega))
theorem endGl_ok {rs : List Item} {b : Nat} (h : rs.all itemValid = true) (hb : b < rs.length) : (endGl rs b).all Gl.ok = true := by
  unfold endGl
  split
  · simp [item_gl_ok (itAt_valid h hb)]
  · rfl
theorem lineAll_ok {rs : List Item} {s b : Nat} (h : rs.all itemValid = true) (hb : b < rs.length) : (lineGls rs s b ++ endGl rs b).all Gl.ok = true := by
  rw [List.all_append, lineGls_ok h (by omega), endGl_ok h hb]; rfl
theorem lineAll_len (rs : List Item) (s b : Nat) : (lineGls rs s b ++ endGl rs b).length ≤ b + 1 := by
  have := idxs_len rs s b
  have : (endGl rs b).length ≤ 1 := by unfold endGl; split <;> simp
  simp [lineGls]; omega

/-! ### badness -/
def badB (need room : Int) : Int := if need = 0 then 0 else if room = 0 then 10000 else if 10 * room < need then 10000 else min 10000 (100 * need * need * need / (room * room * room))
theorem badB_bd {need room : Int} (h : 0 ≤ need) (hr : 0 ≤ room) : 0 ≤ badB need room ∧ badB need room ≤ 10000 := by
  unfold badB
  split
  · omega
  · split
    · omega
    · split
      · omega
      · have a : 0 ≤ 100 * need * need * need / (room * room * room) :=
          Int.ediv_nonneg (Int.mul_nonneg (Int.mul_nonneg (by omega) h) h) (Int.mul_nonneg (Int.mul_nonneg hr hr) hr)
        omega
def fitsB (rs : List Item) (after to width : Int) : Bool := itemsValid rs && (lineOk rs after to && inB width 0 1000)
def badOf (g : Gl) (width : Int) : Int × Bool :=
  if g.w ≤ width then (if g.od = 1 then (0, true) else (badB (width - g.w) g.st, true))
  else if g.w - width ≤ g.sh then (badB (g.w - width) g.sh, false) else (-1, false)
def lineBad (rs : List Item) (after to width : Int) : Int × Bool := if fitsB rs after to width then badOf (lineTot rs after to) width else (-1, false)
theorem lineTot_bd {rs : List Item} {after to : Int} (hv : itemsValid rs = true) (hl : lineOk rs after to = true) :
    let g := lineTot rs after to
    (0 ≤ g.w ∧ g.w ≤ 61000) ∧ (0 ≤ g.st ∧ g.st ≤ 61000) ∧ (0 ≤ g.sh ∧ g.sh ≤ g.w) ∧ (g.od = 0 ∨ g.od = 1) := by
  obtain ⟨hv1, hv2⟩ := itemsValid_iff.1 hv
  have hb := lineOk_bd hl
  have hok := lineAll_ok (s := startOf rs (after + 1).toNat) (b := to.toNat) hv1 (by omega)
  have hlen := lineAll_len rs (startOf rs (after + 1).toNat) to.toNat
  have a := gW_bd hok
  have b := gSt_bd (o := gOd (lineGls rs (startOf rs (after + 1).toNat) to.toNat ++ endGl rs to.toNat)) hok
  have c := gSh_bd hok
  have d := gSh_le hok
  refine ⟨?_, ?_, ?_, ?_⟩
  · show 0 ≤ gW _ ∧ gW _ ≤ _; omega
  · show 0 ≤ gSt _ _ ∧ gSt _ _ ≤ _; omega
  · show 0 ≤ gSh _ ∧ gSh _ ≤ gW _; omega
  · show gOd _ = 0 ∨ gOd _ = 1
    unfold gOd; split <;> simp
theorem badOf_bd {g : Gl} {width : Int} (h : 0 ≤ g.st ∧ 0 ≤ g.sh) : -1 ≤ (badOf g width).1 ∧ (badOf g width).1 ≤ 10000 := by
  unfold badOf
  split
  · split
    · dsimp only; omega
    · have := badB_bd (need := width - g.w) (room := g.st) (by omega) h.1
      dsimp only; omega
  · split
    · have := badB_bd (need := g.w - width) (room := g.sh) (by omega) h.2
      dsimp only; omega
    · dsimp only; omega
theorem lineBad_bd (rs : List Item) (after to width : Int) : -1 ≤ (lineBad rs after to width).1 ∧ (lineBad rs after to width).1 ≤ 10000 := by
  unfold lineBad
  split
  · rename_i h
    simp only [fitsB, Bool.and_eq_true] at h
    have := lineTot_bd h.1 h.2.1
    exact badOf_bd ⟨this.2.1.1, this.2.2.1.1⟩
  · dsimp only; omega
theorem lineBad_fits {rs : List Item} {after to width : Int} (h : 0 ≤ (lineBad rs after to width).1) : fitsB rs after to width = true := by
  unfold lineBad at h
  split at h
  · assumption
  · dsimp only at h; omega
theorem fitsB_iff {rs : List Item} {after to width : Int} : fitsB rs after to width = true ↔ itemsValid rs = true ∧ lineOk rs after to = true ∧ 0 ≤ width ∧ width ≤ 1000 := by
  simp [fitsB, inB]

/-! ### looks and costs -/
def looksOf (st : Bool) (bad : Int) : Int := if bad ≤ 12 then 1 else if st = false then 0 else if bad < 100 then 2 else 3
theorem looksOf_bd (st : Bool) (bad : Int) : 0 ≤ looksOf st bad ∧ looksOf st bad ≤ 3 := by
  unfold looksOf; split
  · omega
  · split
    · omega
    · split <;> omega
def costOf (bad cost : Int) : Int := (10 + bad) * (10 + bad) + if cost = -10000 then 0 else cost * cost
theorem sq_le {a : Int} {b : Int} (h0 : 0 ≤ a) (h : a ≤ b) : a * a ≤ b * b := Int.mul_le_mul h h h0 (by omega)
theorem costOf_bd {bad cost : Int} (hb : 0 ≤ bad ∧ bad ≤ 10000) (hc : isCostB cost = true) : 100 ≤ costOf bad cost ∧ costOf bad cost ≤ 210000000 := by
  have h1 := sq_le (a := 10) (b := 10 + bad) (by omega) (by omega)
  have h2 := sq_le (a := 10 + bad) (b := 10010) (by omega) (by omega)
  unfold costOf
  split
  · omega
  · rename_i hne
    have hc' : 0 ≤ cost ∧ cost ≤ 10000 := by
      simp only [isCostB, Bool.or_eq_true, inB_iff] at hc
      rcases hc with h | h
      · exact h
      · simp at h; exact absurd h hne
    have h3 := sq_le (a := 0) (b := cost) (by omega) (by omega)
    have h4 := sq_le (a := cost) (b := 10000) (by omega) (by omega)
    omega
theorem cost_of_valid {r : Item} (h : itemValid r = true) (hk : r.kind = 2 ∨ r.kind = 3) : isCostB r.cost = true := by
  simp only [itemValid, Bool.and_eq_true] at h
  obtain ⟨_, h⟩ := h
  rcases hk with hk | hk
  · have h' : r.bare = true := by simpa [hk] using h
    simp only [Item.bare, Bool.and_eq_true, decide_eq_true_eq] at h'
    simp [isCostB, inB, h'.1]
  · have h' : (r.rigid && isCostB r.cost) = true := by simpa [hk] using h
    rw [Bool.and_eq_true] at h'
    exact h'.2
theorem break_kind {rs : List Item} {n : Nat} (h : breakB rs n = true) : (itAt rs n).kind = 2 ∨ (itAt rs n).kind = 3 := by
  simp only [breakB, Bool.and_eq_true] at h
  obtain ⟨_, h⟩ := h
  split at h
  · left; assumption
  · right; simp only [Bool.and_eq_true, decide_eq_true_eq] at h; exact h.1
end Go.Proofs.Ytadcbigioldejaa
