/- A line that is set, in plain words; an append of a place. No condition. -/
import Derived.Test.YtadcbigioldejaaPlaced
import Derived.Test.YtadcbigioldejaaSet
import Derived.Test.YtadcbigioldejaaLine7
namespace Go.Proofs.Ytadcbigioldejaa
open Go.RowKit
set_option linter.unusedVariables false

def endW (rs : List Item) (m : Nat) : Int := if (itAt rs m).kind = 3 then (itAt rs m).w else 0
def glsOf (rs : List Item) (l : List Nat) : List Gl := (l.filter fun n => decide ((itAt rs n).kind = 2)).map fun n => (itAt rs n).gl
def boxOf (rs : List Item) (n : Nat) : Int := if (itAt rs n).kind = 2 then 0 else (itAt rs n).w
def boxW (rs : List Item) (l : List Nat) : Int := (l.map (boxOf rs)).sum
def placeGo (rs : List Item) : List Int → Int → List Nat → List Placed × Int
  | _, x, [] => ([], x)
  | ws, x, n :: t => if (itAt rs n).kind = 2 then placeGo rs (ws.drop 1) (x + ws.headD 0) t else (⟨n, x⟩ :: (placeGo rs ws (x + (itAt rs n).w) t).1, (placeGo rs ws (x + (itAt rs n).w) t).2)
def lineL (rs : List Item) (after to : Int) : List Nat := idxs rs (startOf rs (after + 1).toNat) to.toNat
def lineWs (rs : List Item) (after to width : Int) : List Int := setWs (glsOf rs (lineL rs after to)) (max 0 (width - endW rs to.toNat - boxW rs (lineL rs after to)))
def okS (rs : List Item) (after to width : Int) : Bool := okL rs after to && inB width 0 1000
def setPs (rs : List Item) (after to width : Int) : List Placed := if okS rs after to width then (placeGo rs (lineWs rs after to width) 0 (lineL rs after to)).1 else []
def setX (rs : List Item) (after to width : Int) : Int := if okS rs after to width then (placeGo rs (lineWs rs after to width) 0 (lineL rs after to)).2 + endW rs to.toNat else 0
theorem setPs_not {rs : List Item} {after to width : Int} (h : okS rs after to width = false) : setPs rs after to width = [] ∧ setX rs after to width = 0 := by simp [setPs, setX, h]
theorem placeGo_len {rs : List Item} : ∀ (l : List Nat) (ws : List Int) (x : Int), (placeGo rs ws x l).1.length ≤ l.length
  | [], ws, x => by simp [placeGo]
  | n :: t, ws, x => by
    rw [placeGo]; split
    · have := placeGo_len (rs := rs) t (ws.drop 1) (x + ws.headD 0); rw [List.length_cons]; omega
    · have := placeGo_len (rs := rs) t ws (x + (itAt rs n).w); rw [List.length_cons, List.length_cons]; omega
theorem setPs_len (rs : List Item) (after to width : Int) : (setPs rs after to width).length ≤ rs.length := by
  unfold setPs
  split
  · rename_i h
    have hk : okL rs after to = true := by simp only [okS, Bool.and_eq_true] at h; exact h.1
    have hb := lineOk_bd (okL_iff.1 hk).2
    have h1 := placeGo_len (rs := rs) (lineL rs after to) (lineWs rs after to width) 0
    have h2 := idxs_len rs (startOf rs (after + 1).toNat) to.toNat
    unfold lineL at h1
    unfold lineL
    omega
  · simp
theorem glsOf_snoc {rs : List Item} {l : List Nat} {k n : Nat} (h : l[k]? = some n) : glsOf rs (l.take (k + 1)) = glsOf rs (l.take k) ++ (if (itAt rs n).kind = 2 then [(itAt rs n).gl] else []) := by
  rw [glsOf, take_snoc' h, List.filter_append, List.map_append]
  by_cases hk : (itAt rs n).kind = 2 <;> simp [glsOf, hk]
theorem boxW_snoc {rs : List Item} {l : List Nat} {k n : Nat} (h : l[k]? = some n) : boxW rs (l.take (k + 1)) = boxW rs (l.take k) + boxOf rs n := by
  simp [boxW, take_snoc' h]
theorem glsOf_drop {rs : List Item} {l : List Nat} {k n : Nat} (h : l[k]? = some n) : (glsOf rs (l.drop k)).length = (if (itAt rs n).kind = 2 then 1 else 0) + (glsOf rs (l.drop (k + 1))).length := by
  rw [drop_get h]
  by_cases hk : (itAt rs n).kind = 2 <;> simp [glsOf, hk]; omega
theorem glsOf_len (rs : List Item) (l : List Nat) : (glsOf rs l).length ≤ l.length := by simp [glsOf]; exact List.length_filter_le _ _
theorem place_glue {rs : List Item} {l : List Nat} {k n : Nat} {ws : List Int} {y x : Int} {acc : List Placed} {R : List Placed × Int} (h : l[k]? = some n) (hk : (itAt rs n).kind = 2)
    (hR : R = (acc ++ (placeGo rs (y :: ws) x (l.drop k)).1, (placeGo rs (y :: ws) x (l.drop k)).2)) : R = (acc ++ (placeGo rs ws (x + y) (l.drop (k + 1))).1, (placeGo rs ws (x + y) (l.drop (k + 1))).2) := by
  rw [hR, drop_get h, placeGo, if_pos hk]; rfl
theorem place_box {rs : List Item} {l : List Nat} {k n : Nat} {ws : List Int} {x : Int} {acc : List Placed} {R : List Placed × Int} (h : l[k]? = some n) (hk : ¬ (itAt rs n).kind = 2)
    (hR : R = (acc ++ (placeGo rs ws x (l.drop k)).1, (placeGo rs ws x (l.drop k)).2)) : R = ((acc ++ [⟨n, x⟩]) ++ (placeGo rs ws (x + (itAt rs n).w) (l.drop (k + 1))).1, (placeGo rs ws (x + (itAt rs n).w) (l.drop (k + 1))).2) := by
  rw [hR, drop_get h, placeGo, if_neg hk]; simp
theorem place_end {rs : List Item} {l : List Nat} {k : Nat} {ws : List Int} {x : Int} {acc : List Placed} {R : List Placed × Int} (hk : l.length ≤ k)
    (hR : R = (acc ++ (placeGo rs ws x (l.drop k)).1, (placeGo rs ws x (l.drop k)).2)) : R = (acc, x) := by
  rw [hR, drop_end hk, placeGo]; simp
theorem setGo_bd {need all sgn : Int} {neg : Bool} {od : Int} (hn : 0 ≤ need ∧ need ≤ 100000) (ha : 1 ≤ all ∧ all ≤ 100000) (hs : sgn = 1 ∨ sgn = -1) : ∀ (gs : List Gl) (b : Int), gs.all Gl.ok = true → 0 ≤ b → b + 1000 * gs.length ≤ 90000 →
    ∀ y ∈ setGo need all sgn (useOf neg od) b gs, -20000000000 ≤ y ∧ y ≤ 20000000000
  | [], b, _, _, _ => by simp [setGo]
  | g :: t, b, hok, hb0, hb1 => by
    rw [List.all_cons, Bool.and_eq_true] at hok
    have hu := useOf_bd (neg := neg) (od := od) hok.1
    have hg := Gl.ok_iff.1 hok.1
    rw [List.length_cons] at hb1
    have hp := part_bd (need := need) (all := all) (sgn := sgn) (b := b) (u := useOf neg od g) hn ha hs ⟨hb0, by omega⟩ hu
    intro y hy
    rw [setGo] at hy
    rcases List.mem_cons.1 hy with rfl | hy
    · have := hp.s; omega
    · exact setGo_bd hn ha hs t _ hok.2 (by omega) (by omega) y hy
theorem setWs_bd {gs : List Gl} {width : Int} (hok : gs.all Gl.ok = true) (hl : gs.length ≤ 60) (hw : 0 ≤ width ∧ width ≤ 100000) : ∀ y ∈ setWs gs width, -20000000000 ≤ y ∧ y ≤ 20000000000 := by
  have a := gW_bd hok
  have b := gSt_bd (o := gOd gs) hok
  have c := gSh_bd hok
  have h := setPar_bd (T := gTot gs) (width := width) hw ⟨a.1, by show gW gs ≤ _; omega⟩ ⟨b.1, by show gSt _ gs ≤ _; omega⟩ ⟨c.1, by show gSh gs ≤ _; omega⟩
  exact setGo_bd h.need h.all h.sgn gs 0 hok (by omega) (by omega)
theorem glsOf_ok {rs : List Item} {l : List Nat} (h : rs.all itemValid = true) (hl : ∀ n ∈ l, n < rs.length) : (glsOf rs l).all Gl.ok = true := by
  rw [List.all_eq_true]
  intro g hg
  simp only [glsOf, List.mem_map, List.mem_filter] at hg
  obtain ⟨n, hn, rfl⟩ := hg
  exact item_gl_ok (itAt_valid h (hl n hn.1))
theorem IntsAt.tail {w : World} {A : Option Addr} {n c : Nat} {x : Int} {xs : List Int} (h : IntsAt w A (n + 1) c (x :: xs)) : ∃ b off A1, A = some ⟨b, off, none⟩ ∧ b < w.heap.size ∧ w.cell? ⟨b, off, none⟩ = some (.int .i64 x) ∧ IntsAt w A1 n (c - 1) xs ∧
    ∀ wx : World, (Instr.slice 23 (.slice (some ⟨b, off, none⟩) (n + 1) c) (some (.int .i64 1)) none none).run Try.prog wx = .ok (.slice A1 n (c - 1)) wx := by
  have hbd := h.bd
  have hlen : xs.length = n := by have := h.len; simpa using this
  obtain ⟨b, off, rfl, hl, hc⟩ := Rd.cells h.1 (by omega)
  refine ⟨b, off, if c = 1 then some ⟨b, off, none⟩ else some ⟨b, off + 1, none⟩, rfl, hl, ?_, ?_, fun wx => ?_⟩
  · have := hc 0 (.int .i64 x) (by simp); simpa using this
  · split
    · rename_i hc1
      obtain rfl : n = 0 := by omega
      obtain rfl : xs = [] := List.eq_nil_of_length_eq_zero hlen
      exact IntsAt.nil _ _ _ (by omega)
    · refine ⟨⟨by simpa using hlen, fun _ => ⟨b, off + 1, rfl, hl, fun j u hu => ?_⟩⟩, by omega, by omega⟩
      have := hc (j + 1) u (by simpa using hu)
      rwa [show off + (j + 1) = off + 1 + j by omega] at this
  · have h7 : ¬ ((n : Int) + 1 < 1) := by omega
    simp [go_sem, h7]
theorem OwnP.nil_ (w : World) (B : Nat) : OwnP w B none 0 [] := World.ownsRow_nil w B _ _
theorem OwnP.fresh (w : World) : OwnP (w.alloc (.cells #[] 73)) w.heap.size (some ⟨w.heap.size, 0, none⟩) 0 [] := World.ownsRow_made w #[] 0 (Nat.le_refl _) (Nat.zero_le _) rfl
theorem OwnG.fresh (w : World) : OwnG (w.alloc (.cells #[] 49)) w.heap.size (some ⟨w.heap.size, 0, none⟩) 0 [] := World.ownsRow_made w #[] 0 (Nat.le_refl _) (Nat.zero_le _) rfl
theorem wpList_push_P {ops : Array Oper} {rest : List Oper} {o : Oper} {a : Act} {Q : Exit → Act → World → Prop} {B : Nat} {w : World} {s x : Operand} {A : Option Addr} {c : Nat} {gs : List Placed} (g : Placed) (hw : o.guard = none)
    (ho : o.op = .call { callee := .builtin .append, args := #[s, x], argTypes := #[41, 41] }) (hown : OwnP w B A c gs) (hs : a.eval s = .slice A gs.length c) (hx : a.eval x = .slice (some ⟨w.heap.size, 0, none⟩) 1 1) (hlen : gs.length ≤ 1000000000) (hB : B ≤ w.heap.size)
    (h : ∀ A' c' w', OwnP w' B A' c' (gs ++ [g]) → (w.alloc (.cells #[.int .i64 g.at_, .int .i64 g.place] 73)).grownBy w' (Value.slice A gs.length c).ownBlock → OwnP (w.alloc (.cells #[.int .i64 g.at_, .int .i64 g.place] 73)) B A c gs → wpList Try.prog ops Q rest (a.put o.dst (.slice A' (gs.length + 1) c')) w') :
    wpList Try.prog ops Q (o :: rest) a (w.alloc (.cells #[.int .i64 g.at_, .int .i64 g.place] 73)) := by
  obtain ⟨i0, hi, hz0, hz1, hz2⟩ := info_parts infoPlaced
  have ho2 : OwnP (w.alloc (.cells #[.int .i64 g.at_, .int .i64 g.place] 73)) B A c gs := World.ownsRow.alloc hown _
  refine wpList_append_own_at _ hw s x 41 ho B 73 i0 _ 2 16 Try.underlying41 hi hz0 hz1 hz2 rfl (by decide) _ _ _ hs ho2 ⟨w.heap.size, 0, none⟩ 1 1 [.int .i64 g.at_, .int .i64 g.place] hx rfl (cells_new_placed _ _ _ _) (one_placed g) (by unfold maxLen; omega) (by omega) (by simp; omega) ?_
  intro v3 w3 hown3 hg3 _ hat
  have hown4 : w3.ownsRow B 73 2 v3 (gs ++ [g]).length ((gs ++ [g]).flatMap Placed.cells) := by rw [flat_snoc_placed]; simpa using hown3
  obtain ⟨A4, c4, rfl, hown5⟩ := OwnP.of hown4
  have := h A4 c4 w3 hown5 hg3 ho2
  simpa using this
end Go.Proofs.Ytadcbigioldejaa
