/- A line that is set, in plain words; an append of a place. · SetLine, the program's: contract. No condition. -/
import Derived.Test.YtlklkloadefihaaMa
import Derived.Test.YtlklkloadefihaaSet
import Derived.Test.YtlklkloadefihaaMli
namespace Go.Proofs.Ytlklkloadefihaa
open Go.RowKit
set_option linter.unusedVariables false

def endW (rs : List Item) (m : Nat) : Int := if (itAt rs m).kind = 3 then (itAt rs m).w else 0
def glsOf (rs : List Item) (l : List Nat) : List Gl := (l.filter fun n => decide ((itAt rs n).kind = 2)).map fun n => (itAt rs n).gl
def boxOf (rs : List Item) (n : Nat) : Int := if (itAt rs n).kind = 2 then 0 else (itAt rs n).w
def boxW (rs : List Item) (l : List Nat) : Int := (l.map (boxOf rs)).sum
def placeGo (rs : List Item) : List Int → Int → List Nat → List Placed × Int
  | _, x, [] => ([], x)
  | ws, x, n :: t => if (itAt rs n).kind = 2 then placeGo rs (ws.drop 1) (x + ws.headD 0) t else (⟨n, x⟩ :: (placeGo rs ws (x + (itAt rs n).w) t).1, (placeGo rs ws (x + (itAt rs n).w) t).2)
def lineL (rs : List Item) (after to : Int) : List Nat := idxs rs (startOf rs (after + 1).toNat) to.toNat
def lineWs (rs : List Item) (after to width : Int) : List Int := setWs (glsOf rs (lineL rs after to)) (max 0 (width - endW rs to.toNat - boxW rs (lineL rs after to)))
def okS (rs : List Item) (after to width : Int) : Bool := okL rs after to && inB width 0 1000
def setPs (rs : List Item) (after to width : Int) : List Placed := if okS rs after to width then (placeGo rs (lineWs rs after to width) 0 (lineL rs after to)).1 else []
def setX (rs : List Item) (after to width : Int) : Int := if okS rs after to width then (placeGo rs (lineWs rs after to width) 0 (lineL rs after to)).2 + endW rs to.toNat else 0
theorem setPs_not {rs : List Item} {after to width : Int} (h : okS rs after to width = false) : setPs rs after to width = [] ∧ setX rs after to width = 0 := by simp [setPs, setX, h]
theorem placeGo_len {rs : List Item} : ∀ (l : List Nat) (ws : List Int) (x : Int), (placeGo rs ws x l).1.length ≤ l.length
  | [], ws, x => by simp [placeGo]
  | n :: t, ws, x => by
    rw [placeGo]; split
    · have := placeGo_len (rs := rs) t (ws.drop 1) (x + ws.headD 0); rw [List.length_cons]; omega
    · have := placeGo_len (rs := rs) t ws (x + (itAt rs n).w); rw [List.length_cons, List.length_cons]; omega
theorem setPs_len (rs : List Item) (after to width : Int) : (setPs rs after to width).length ≤ rs.length := by
  unfold setPs
  split
  · rename_i h
    have hk : okL rs after to = true := by simp only [okS, Bool.and_eq_true] at h; exact h.1
    have hb := lineOk_bd (okL_iff.1 hk).2
    have h1 := placeGo_len (rs := rs) (lineL rs after to) (lineWs rs after to width) 0
    have h2 := idxs_len rs (startOf rs (after + 1).toNat) to.toNat
    unfold lineL at h1
    unfold lineL
    omega
  · simp
theorem glsOf_snoc {rs : List Item} {l : List Nat} {k n : Nat} (h : l[k]? = some n) : glsOf rs (l.take (k + 1)) = glsOf rs (l.take k) ++ (if (itAt rs n).kind = 2 then [(itAt rs n).gl] else []) := by
  rw [glsOf, take_snoc' h, List.filter_append, List.map_append]
  by_cases hk : (itAt rs n).kind = 2 <;> simp [glsOf, hk]
theorem boxW_snoc {rs : List Item} {l : List Nat} {k n : Nat} (h : l[k]? = some n) : boxW rs (l.take (k + 1)) = boxW rs (l.take k) + boxOf rs n := by
  simp [boxW, take_snoc' h]
theorem glsOf_drop {rs : List Item} {l : List Nat} {k n : Nat} (h : l[k]? = some n) : (glsOf rs (l.drop k)).length = (if (itAt rs n).kind = 2 then 1 else 0) + (glsOf rs (l.drop (k + 1))).length := by
  rw [drop_get h]
  by_cases hk : (itAt rs n).kind = 2 <;> simp [glsOf, hk]; omega
theorem glsOf_len (rs : List Item) (l : List Nat) : (glsOf rs l).length ≤ l.length := by simp [glsOf]; exact List.length_filter_le _ _
theorem place_glue {rs : List Item} {l : List Nat} {k n : Nat} {ws : List Int} {y x : Int} {acc : List Placed} {R : List Placed × Int} (h : l[k]? = some n) (hk : (itAt rs n).kind = 2)
    (hR : R = (acc ++ (placeGo rs (y :: ws) x (l.drop k)).1, (placeGo rs (y :: ws) x (l.drop k)).2)) : R = (acc ++ (placeGo rs ws (x + y) (l.drop (k + 1))).1, (placeGo rs ws (x + y) (l.drop (k + 1))).2) := by
  rw [hR, drop_get h, placeGo, if_pos hk]; rfl
theorem place_box {rs : List Item} {l : List Nat} {k n : Nat} {ws : List Int} {x : Int} {acc : List Placed} {R : List Placed × Int} (h : l[k]? = some n) (hk : ¬ (itAt rs n).kind = 2)
    (hR : R = (acc ++ (placeGo rs ws x (l.drop k)).1, (placeGo rs ws x (l.drop k)).2)) : R = ((acc ++ [⟨n, x⟩]) ++ (placeGo rs ws (x + (itAt rs n).w) (l.drop (k + 1))).1, (placeGo rs ws (x + (itAt rs n).w) (l.drop (k + 1))).2) := by
  rw [hR, drop_get h, placeGo, if_neg hk]; simp
theorem place_end {rs : List Item} {l : List Nat} {k : Nat} {ws : List Int} {x : Int} {acc : List Placed} {R : List Placed × Int} (hk : l.length ≤ k)
    (hR : R = (acc ++ (placeGo rs ws x (l.drop k)).1, (placeGo rs ws x (l.drop k)).2)) : R = (acc, x) := by
  rw [hR, drop_end hk, placeGo]; simp
theorem setGo_bd {need all sgn : Int} {neg : Bool} {od : Int} (hn : 0 ≤ need ∧ need ≤ 100000) (ha : 1 ≤ all ∧ all ≤ 100000) (hs : sgn = 1 ∨ sgn = -1) : ∀ (gs : List Gl) (b : Int), gs.all Gl.ok = true → 0 ≤ b → b + 1000 * gs.length ≤ 90000 →
    ∀ y ∈ setGo need all sgn (useOf neg od) b gs, -20000000000 ≤ y ∧ y ≤ 20000000000
  | [], b, _, _, _ => by simp [setGo]
  | g :: t, b, hok, hb0, hb1 => by
    rw [List.all_cons, Bool.and_eq_true] at hok
    have hu := useOf_bd (neg := neg) (od := od) hok.1
    have hg := Gl.ok_iff.1 hok.1
    rw [List.length_cons] at hb1
    have hp := part_bd (need := need) (all := all) (sgn := sgn) (b := b) (u := useOf neg od g) hn ha hs ⟨hb0, by omega⟩ hu
    intro y hy
    rw [setGo] at hy
    rcases List.mem_cons.1 hy with rfl | hy
    · have := hp.s; omega
    · exact setGo_bd hn ha hs t _ hok.2 (by omega) (by omega) y hy
theorem setWs_bd {gs : List Gl} {width : Int} (hok : gs.all Gl.ok = true) (hl : gs.length ≤ 60) (hw : 0 ≤ width ∧ width ≤ 100000) : ∀ y ∈ setWs gs width, -20000000000 ≤ y ∧ y ≤ 20000000000 := by
  have a := gW_bd hok
  have b := gSt_bd (o := gOd gs) hok
  have c := gSh_bd hok
  have h := setPar_bd (T := gTot gs) (width := width) hw ⟨a.1, by show gW gs ≤ _; omega⟩ ⟨b.1, by show gSt _ gs ≤ _; omega⟩ ⟨c.1, by show gSh gs ≤ _; omega⟩
  exact setGo_bd h.need h.all h.sgn gs 0 hok (by omega) (by omega)
theorem glsOf_ok {rs : List Item} {l : List Nat} (h : rs.all itemValid = true) (hl : ∀ n ∈ l, n < rs.length) : (glsOf rs l).all Gl.ok = true := by
  rw [List.all_eq_true]
  intro g hg
  simp only [glsOf, List.mem_map, List.mem_filter] at hg
  obtain ⟨n, hn, rfl⟩ := hg
  exact item_gl_ok (itAt_valid h (hl n hn.1))
theorem IntsAt.tail {w : World} {A : Option Addr} {n c : Nat} {x : Int} {xs : List Int} (h : IntsAt w A (n + 1) c (x :: xs)) : ∃ b off A1, A = some ⟨b, off, none⟩ ∧ b < w.heap.size ∧ w.cell? ⟨b, off, none⟩ = some (.int .i64 x) ∧ IntsAt w A1 n (c - 1) xs ∧
    ∀ wx : World, (Instr.slice 34 (.slice (some ⟨b, off, none⟩) (n + 1) c) (some (.int .i64 1)) none none).run Try.prog wx = .ok (.slice A1 n (c - 1)) wx := by
  have hbd := h.bd
  have hlen : xs.length = n := by have := h.len; simpa using this
  obtain ⟨b, off, rfl, hl, hc⟩ := Rd.cells h.1 (by omega)
  refine ⟨b, off, if c = 1 then some ⟨b, off, none⟩ else some ⟨b, off + 1, none⟩, rfl, hl, ?_, ?_, fun wx => ?_⟩
  · have := hc 0 (.int .i64 x) (by simp); simpa using this
  · split
    · rename_i hc1
      obtain rfl : n = 0 := by omega
      obtain rfl : xs = [] := List.eq_nil_of_length_eq_zero hlen
      exact IntsAt.nil _ _ _ (by omega)
    · refine ⟨⟨by simpa using hlen, fun _ => ⟨b, off + 1, rfl, hl, fun j u hu => ?_⟩⟩, by omega, by omega⟩
      have := hc (j + 1) u (by simpa using hu)
      rwa [show off + (j + 1) = off + 1 + j by omega] at this
  · have h7 : ¬ ((n : Int) + 1 < 1) := by omega
    simp [go_sem, h7]
theorem OwnP.nil_ (w : World) (B : Nat) : OwnP w B none 0 [] := World.ownsRow_nil w B _ _
theorem OwnP.fresh (w : World) : OwnP (w.alloc (.cells #[] 49)) w.heap.size (some ⟨w.heap.size, 0, none⟩) 0 [] := World.ownsRow_made w #[] 0 (Nat.le_refl _) (Nat.zero_le _) rfl
theorem OwnG.fresh (w : World) : OwnG (w.alloc (.cells #[] 29)) w.heap.size (some ⟨w.heap.size, 0, none⟩) 0 [] := World.ownsRow_made w #[] 0 (Nat.le_refl _) (Nat.zero_le _) rfl
theorem wpList_push_P {ops : Array Oper} {rest : List Oper} {o : Oper} {a : Act} {Q : Exit → Act → World → Prop} {B : Nat} {w : World} {s x : Operand} {A : Option Addr} {c : Nat} {gs : List Placed} (g : Placed) (hw : o.guard = none)
    (ho : o.op = .call { callee := .builtin .append, args := #[s, x], argTypes := #[45, 45] }) (hown : OwnP w B A c gs) (hs : a.eval s = .slice A gs.length c) (hx : a.eval x = .slice (some ⟨w.heap.size, 0, none⟩) 1 1) (hlen : gs.length ≤ 1000000000) (hB : B ≤ w.heap.size)
    (h : ∀ A' c' w', OwnP w' B A' c' (gs ++ [g]) → (w.alloc (.cells #[.int .i64 g.at_, .int .i64 g.place] 49)).grownBy w' (Value.slice A gs.length c).ownBlock → OwnP (w.alloc (.cells #[.int .i64 g.at_, .int .i64 g.place] 49)) B A c gs → wpList Try.prog ops Q rest (a.put o.dst (.slice A' (gs.length + 1) c')) w') :
    wpList Try.prog ops Q (o :: rest) a (w.alloc (.cells #[.int .i64 g.at_, .int .i64 g.place] 49)) := by
  obtain ⟨i0, hi, hz0, hz1, hz2⟩ := info_parts infoPlaced
  have ho2 : OwnP (w.alloc (.cells #[.int .i64 g.at_, .int .i64 g.place] 49)) B A c gs := World.ownsRow.alloc hown _
  refine wpList_append_own_at _ hw s x 45 ho B 49 i0 _ 2 16 Try.underlying45 hi hz0 hz1 hz2 rfl (by decide) _ _ _ hs ho2 ⟨w.heap.size, 0, none⟩ 1 1 [.int .i64 g.at_, .int .i64 g.place] hx rfl (cells_new_placed _ _ _ _) (one_placed g) (by unfold maxLen; omega) (by omega) (by simp; omega) ?_
  intro v3 w3 hown3 hg3 _ hat
  have hown4 : w3.ownsRow B 49 2 v3 (gs ++ [g]).length ((gs ++ [g]).flatMap Placed.cells) := by rw [flat_snoc_placed]; simpa using hown3
  obtain ⟨A4, c4, rfl, hown5⟩ := OwnP.of hown4
  have := h A4 c4 w3 hown5 hg3 ho2
  simpa using this
end Go.Proofs.Ytlklkloadefihaa

namespace Go.Proofs.Ytlklkloadefihaa
open Go.RowKit
set_option linter.unusedVariables false

set_option maxRecDepth 100000 in
set_option maxHeartbeats 6400000 in
theorem c_setLine (A : Option Addr) (n c : Nat) (rs : List Item) (after to width : Int) (w : World) (hR : ItemsAt w A n c rs) :
    Calls Try.prog 31 #[.slice A n c, .int .i64 after, .int .i64 to, .int .i64 width] w fun e w' => ∃ A' c', e = .returned (.tuple #[.slice A' (setPs rs after to width).length c', .int .i64 (setX rs after to width), .bool (okS rs after to width)]) ∧ OwnP w' w.heap.size A' c' (setPs rs after to width) ∧ Below w.heap.size w w' := by
  have hlen := hR.len
  have hbd := hR.bd
  have HLEN := hide hlen
  clear hlen
  obtain ⟨its, HI⟩ : ∃ its, Hid (lineIts rs after to = its) := ⟨_, rfl⟩
  go_enter Try.func31, Try.ntmps31
  go_wp2_with fail
  refine (c_lineItems A n c rs after to _ hR).mono ?_
  rw [unhide HI]
  rintro e w1 ⟨A1, c1, rfl, I0, hb1⟩
  cases hk : okL rs after to
  case' false =>
    have HK : Hid (okS rs after to width = false) := by show _ = _; rw [okS, hk]; rfl
    have HP := hide (setPs_not (unhide HK))
    clear hk I0
    go_wp2
    go_ret3
    rw [unhide HK, (unhide HP).1, (unhide HP).2]
    exact ⟨none, 0, rfl, OwnP.nil_ _ _, hb1⟩
  case' true =>
    cases hw : inB width 0 1000
    case' false =>
      have HK : Hid (okS rs after to width = false) := by show _ = _; rw [okS, hw]; simp
      have HP := hide (setPs_not (unhide HK))
      clear hk I0
      go_wp2_with (go_at_call 45; refine (c_in _ _ _ _).mono ?_; rintro e w' ⟨rfl, rfl⟩)
      go_ret3
      rw [unhide HK, (unhide HP).1, (unhide HP).2]
      exact ⟨none, 0, rfl, OwnP.nil_ _ _, hb1⟩
    case' true =>
      have HK : Hid (okS rs after to width = true) := by show _ = _; rw [okS, hk, hw]; rfl
      obtain ⟨hw0, hw1⟩ := inB_iff.1 hw
      obtain ⟨hv, hl⟩ := okL_iff.1 hk
      have HVAL := hide (itemsValid_iff.1 hv).1
      have hn60 := (itemsValid_iff.1 hv).2
      rw [unhide HLEN] at hn60
      have hb := lineOk_bd hl
      rw [unhide HLEN] at hb
      obtain ⟨k0, hk0⟩ := Int.eq_ofNat_of_zero_le (show 0 ≤ after + 1 by omega)
      obtain ⟨m, rfl⟩ := Int.eq_ofNat_of_zero_le (show 0 ≤ to by omega)
      have hmn : m < n := by omega
      obtain ⟨l, HL⟩ : ∃ l, Hid (lineL rs after m = l) := ⟨_, rfl⟩
      have e1 : (after + 1).toNat = k0 := by omega
      have HI2 : Hid (its = ints l) := by show _ = _; rw [← unhide HI, lineIts_ok hk k0 m hk0 rfl, ← unhide HL, lineL, e1, Int.toNat_natCast]
      have hll : l.length ≤ 60 := by
        rw [← unhide HL, lineL, Int.toNat_natCast]; have := idxs_len rs (startOf rs (after + 1).toNat) m; omega
      have hil : its.length = l.length := by rw [unhide HI2, ints_len]
      have hil60 : its.length ≤ 60 := by rw [hil]; exact hll
      have hin : ∀ x ∈ l, x < m := fun x hx => by rw [← unhide HL, lineL, Int.toNat_natCast] at hx; exact (idxs_mem hx).2.1
      have HIN := hide hin
      have HIL := hide hil
      have hgok : Hid (∀ k, (glsOf rs (l.take k)).all Gl.ok = true) := by
        show ∀ k, _ = _
        exact fun k => glsOf_ok (unhide HVAL) fun x hx => by have := unhide HIN x (List.mem_of_mem_take hx); rw [unhide HLEN]; omega
      obtain ⟨E, HE⟩ : ∃ E, Hid (endW rs m = E) := ⟨_, rfl⟩
      obtain ⟨b0, off0, r0, e0, hbl0, hr0, d0, d1, d2, d3, d4, d5, d6⟩ := (hR.next hb1).at_ hmn
      subst e0
      have hit0 := itAt_of hr0
      have hr0b : 0 ≤ r0.w ∧ r0.w ≤ 1000 := by
        have := Gl.ok_iff.1 (item_gl_ok (List.all_eq_true.1 (unhide HVAL) r0 (mem_of_get hr0))); exact this.1
      have hEb : 0 ≤ E ∧ E ≤ 1000 := by
        rw [← unhide HE, endW, hit0]; split
        · exact hr0b
        · omega
      have HRES : Hid (setPs rs after m width = (placeGo rs (setWs (glsOf rs l) (max 0 (width - E - boxW rs l))) 0 l).1 ∧ setX rs after m width = (placeGo rs (setWs (glsOf rs l) (max 0 (width - E - boxW rs l))) 0 l).2 + E) := by
        show _ ∧ _
        rw [setPs, setX, if_pos (unhide HK), if_pos (unhide HK), lineWs, unhide HL, Int.toNat_natCast, unhide HE]
        exact ⟨rfl, rfl⟩
      have hbx : ∀ k, 0 ≤ boxW rs (l.take k) ∧ boxW rs (l.take k) ≤ 1000 * (k : Int) := by
        intro k
        have : ∀ (l' : List Nat), (∀ x ∈ l', x < m) → 0 ≤ boxW rs l' ∧ boxW rs l' ≤ 1000 * (l'.length : Int) := by
          intro l'
          induction l' with
          | nil => intro _; simp [boxW]
          | cons a t ih =>
            intro h
            have h1 := ih fun x hx => h x (List.mem_cons_of_mem _ hx)
            have h2 := Gl.ok_iff.1 (item_gl_ok (itAt_valid (unhide HVAL) (show a < rs.length by rw [unhide HLEN]; have := h a (List.mem_cons_self ..); omega)))
            have h3 : 0 ≤ boxOf rs a ∧ boxOf rs a ≤ 1000 := by
              unfold boxOf; split
              · omega
              · exact h2.1
            simp only [boxW, List.map_cons, List.sum_cons, List.length_cons] at h1 ⊢
            omega
        have h4 := this (l.take k) fun x hx => unhide HIN x (List.mem_of_mem_take hx)
        have h5 : (l.take k).length ≤ k := by simp; omega
        omega
      have HBX := hide hbx
      have hsz := hb1.size
      by_cases hkd : r0.kind = 3
      case' pos =>
        have d0' : w1.cell? ⟨b0, off0 + m * 7, none⟩ = some (.int .i64 3) := by rw [d0, hkd]
        have HER : Hid (E = E) := rfl
        have hEr : r0.w = E := by rw [← unhide HE, endW, hit0, if_pos hkd]
        clear hk hv hl hb hk0 hin hil HI HL hr0 hit0 d0 hkd hbx e1 d2 d3 d4 d5 d6
        go_wp2_with (go_at_call 45; refine (c_in _ _ _ _).mono ?_; rintro e w' ⟨rfl, rfl⟩)
      case' neg =>
        have d0' : (r0.kind == 3) = false := by simpa using hkd
        have hEr : (0 : Int) = E := by rw [← unhide HE, endW, hit0, if_neg hkd]
        have HER := hide hEr.symm
        clear hEr
        clear hk hv hl hb hk0 hin hil HI HL hr0 hit0 hkd hbx e1 d1 d2 d3 d4 d5 d6
        go_wp2_with (go_at_call 45; refine (c_in _ _ _ _).mono ?_; rintro e w' ⟨rfl, rfl⟩)
      all_goals
        go_loopw [14, 15, 55] (fun rv o i wr => ∃ (k : Nat) (A' : Option Addr) (c' : Nat) (gs : List Gl) (rho : Int), k ≤ its.length ∧ i = .int .i64 k ∧ rv = .int .i64 rho ∧ Hid (rho = width - E - boxW rs (l.take k)) ∧ Hid (gs = glsOf rs (l.take k)) ∧ o = .slice A' gs.length c' ∧ OwnG wr w1.heap.size A' c' gs ∧ Below w1.heap.size w1 wr) (fun _ _ i _ => its.length - (intOf i).toNat)
        case atStart =>
          have hE0 := unhide HER
          exact ⟨0, none, 0, [], _, Nat.zero_le _, rfl, rfl, by show _ = _; simp [boxW]; try omega, by show _ = _; simp [glsOf], rfl, OwnG.nil_ _ _, Below.refl _ _⟩
        case round =>
          obtain ⟨k, A', c', gs, rho, hk, rfl, rfl, hrho, hgs, rfl, hown, hbL⟩ := hrel
          have hbs := hbL.size
          have hgl : gs.length ≤ 60 := by
            rw [unhide hgs]; have := glsOf_len rs (l.take k); have h2 : (l.take k).length ≤ l.length := by simp; omega
            omega
          have hbk := unhide HBX k
          rw [show boxW rs (l.take k) = width - E - rho by rw [unhide hrho]; omega] at hbk
          obtain ⟨hbk0, hbk1⟩ := hbk
          by_cases hlt : k < its.length
          · obtain ⟨b1, off1, x, e1, hbl1, hx, hcx⟩ := (I0.at_.next hbL).at_ hlt
            subst e1
            obtain ⟨j, hj, rfl⟩ := ints_get (by rw [← unhide HI2]; exact hx)
            have hjm := unhide HIN j (mem_of_get hj)
            have hjn : j < n := by omega
            obtain ⟨b, off, r, e2, hbl, hr, h0, h1, h2, h3, h4, h5, h6⟩ := (hR.next (bnext hb1 hbL)).at_ hjn
            cases e2
            have hit := itAt_of hr
            have hrb : 0 ≤ r.w ∧ r.w ≤ 1000 := (Gl.ok_iff.1 (item_gl_ok (List.all_eq_true.1 (unhide HVAL) r (mem_of_get hr)))).1
            obtain ⟨hrb0, hrb1⟩ := hrb
            by_cases hk2 : r.kind = 2
            · have H1 : Hid (rho = width - E - boxW rs (l.take (k + 1))) := by show _ = _; rw [boxW_snoc hj, boxOf, hit, if_pos hk2, unhide hrho]; omega
              have H2 : Hid (gs ++ [r.gl] = glsOf rs (l.take (k + 1))) := by show _ = _; rw [glsOf_snoc hj, hit, if_pos hk2, unhide hgs]
              have h0' := h0.trans (by rw [hk2] : _ = some (Value.int .i64 2))
              clear hrho hgs hr hj hx hit hk2 h0
              go_wp2_with (at_builtin; refine wpList_push_G r.gl rfl rfl hown rfl rfl (by omega) (by omega) ?_; intro A2 c2 w2 hown2 hg2 ho2)
              go_roundw
              case rel => exact ⟨k + 1, A2, c2, _, rho, by omega, by go_num, rfl, H1, H2, by simp, hown2, b_own (bmk hbL _) ho2 (Nat.le_refl _) hg2⟩
              case measure => simp [intOf]; omega
            · have H1 : Hid (rho - r.w = width - E - boxW rs (l.take (k + 1))) := by show _ = _; rw [boxW_snoc hj, boxOf, hit, if_neg hk2, unhide hrho]; omega
              have H2 : Hid (gs = glsOf rs (l.take (k + 1))) := by show _ = _; rw [glsOf_snoc hj, hit, if_neg hk2, List.append_nil]; exact unhide hgs
              have h0' : (r.kind == 2) = false := by simpa using hk2
              clear hrho hgs hr hj hx hit hk2
              go_wp2
              go_roundw
              case rel => exact ⟨k + 1, A', c', gs, rho - r.w, by omega, by go_num, rfl, H1, H2, rfl, hown, hbL⟩
              case measure => simp [intOf]; omega
          · obtain rfl : its.length = k := by omega
            have hfull : l.take its.length = l := by rw [unhide HIL]; exact List.take_length
            rw [hfull] at hrho hgs
            have hgo := unhide hgok l.length
            rw [List.take_length, ← unhide hgs] at hgo
            have HGO := hide hgo
            obtain ⟨M, HM⟩ : ∃ M, Hid (M = max 0 rho) := ⟨_, rfl⟩
            have hMb : 0 ≤ M ∧ M ≤ 100000 := by rw [unhide HM]; omega
            have HR2 : Hid (setPs rs after m width = (placeGo rs (setWs gs M) 0 l).1 ∧ setX rs after m width = (placeGo rs (setWs gs M) 0 l).2 + E) := by
              show _ ∧ _; rw [(unhide HRES).1, (unhide HRES).2, unhide HM, unhide hrho, unhide hgs]; exact ⟨rfl, rfl⟩
            have hwsb := hide (setWs_bd hgo hgl hMb)
            have hwsl : Hid ((setWs gs M).length = (glsOf rs (l.drop 0)).length) := by show _ = _; rw [setWs_len, unhide hgs]; rfl
            clear hfull hgo HRES hrho hgs
            go_wp2_with (refine wpList_max rfl rfl rfl rfl ?_)
            rw [← unhide HM]
            refine (c_set A' gs.length c' gs M _ hown.at_ (unhide HGO) hgl hMb).mono ?_
            rintro e w3 ⟨A3, c3, ok3, rfl, O3, hb3⟩
            have hbB := bnext hbL hb3
            have I3 := I0.next hbB
            clear hown hbL hb3 HM
            obtain ⟨ws0, HW0⟩ : ∃ ws, Hid (setWs gs M = ws) := ⟨_, rfl⟩
            rw [unhide HW0] at O3 HR2 hwsb hwsl ⊢
            have O3a := O3.at_
            have hsB := hbB.size
            obtain ⟨R, HRR⟩ : ∃ R, Hid (R = placeGo rs ws0 0 l) := ⟨_, rfl⟩
            rw [← unhide HRR] at HR2
            clear HW0
            go_wp2
            go_loopw [18, 20, 21, 91] (fun wv o xv i wr => ∃ (k : Nat) (Aw : Option Addr) (cw : Nat) (ws : List Int) (Ao : Option Addr) (co : Nat) (acc : List Placed) (x : Int), k ≤ its.length ∧ i = .int .i64 k ∧ wv = .slice Aw ws.length cw ∧ IntsAt w3 Aw ws.length cw ws ∧ o = .slice Ao acc.length co ∧ acc.length ≤ k ∧ xv = .int .i64 x ∧ -20000001000 * (k : Int) ≤ x ∧ x ≤ 20000001000 * (k : Int) ∧ Hid (∀ y ∈ ws, -20000000000 ≤ y ∧ y ≤ 20000000000) ∧ Hid (ws.length = (glsOf rs (l.drop k)).length) ∧ Hid (R = (acc ++ (placeGo rs ws x (l.drop k)).1, (placeGo rs ws x (l.drop k)).2)) ∧ OwnP wr w3.heap.size Ao co acc ∧ Below w3.heap.size w3 wr) (fun _ _ _ i _ => its.length - (intOf i).toNat)
            case atStart => exact ⟨0, A3, c3, ws0, none, 0, [], 0, Nat.zero_le _, rfl, rfl, O3a, rfl, Nat.le_refl _, rfl, by omega, by omega, hwsb, hwsl, by show _ = _; rw [unhide HRR]; simp, OwnP.nil_ _ _, Below.refl _ _⟩
            case round =>
              clear O3 O3a hwsb hwsl HRR
              obtain ⟨k, Aw, cw, ws, Ao, co, acc, x, hk, rfl, rfl, IW, rfl, hac, rfl, hx0, hx1, hwb, hwl, hR2, hown, hbP⟩ := hrel
              have hbs2 := hbP.size
              by_cases hlt : k < its.length
              · obtain ⟨b1, off1, x1, e1, hbl1, hx, hcx⟩ := (I3.at_.next hbP).at_ hlt
                subst e1
                obtain ⟨j, hj, rfl⟩ := ints_get (by rw [← unhide HI2]; exact hx)
                have hjm := unhide HIN j (mem_of_get hj)
                have hjn : j < n := by omega
                obtain ⟨b, off, r, e2, hbl, hr, h0, h1, h2, h3, h4, h5, h6⟩ := (hR.next (bnext hb1 (bnext hbB hbP))).at_ hjn
                cases e2
                have hit := itAt_of hr
                have hrb : 0 ≤ r.w ∧ r.w ≤ 1000 := (Gl.ok_iff.1 (item_gl_ok (List.all_eq_true.1 (unhide HVAL) r (mem_of_get hr)))).1
                obtain ⟨hrb0, hrb1⟩ := hrb
                have hdl := glsOf_drop (rs := rs) hj
                by_cases hk2 : r.kind = 2
                · rw [hit, if_pos hk2] at hdl
                  rcases ws with _ | ⟨y, ws⟩
                  · have := unhide hwl; simp at this; omega
                  · have hyb := unhide hwb y (List.mem_cons_self ..)
                    have hwb2 := hide (fun z (hz : z ∈ ws) => unhide hwb z (List.mem_cons_of_mem _ hz))
                    have hwl2 : Hid (ws.length = (glsOf rs (l.drop (k + 1))).length) := by
                      show _ = _; have := unhide hwl; rw [List.length_cons] at this; omega
                    have hR3 := hide (place_glue hj (by rw [hit]; exact hk2) (unhide hR2))
                    obtain ⟨bw, offw, Aw1, e3, hblw, hcw, IW2, hsl⟩ := IW.tail
                    subst e3
                    have hcw2 := (hbP.cell (p := ⟨bw, offw, none⟩) hblw).trans hcw
                    have hbdw := IW.bd
                    rw [List.length_cons] at hbdw
                    have h0' := h0.trans (by rw [hk2] : _ = some (Value.int .i64 2))
                    have hlc : (y :: ws).length = ws.length + 1 := List.length_cons
                    rw [hlc]
                    obtain ⟨hyb0, hyb1⟩ := hyb
                    clear hwb hwl hR2 hr hj hx hit hk2 h0 hdl IW hlc hcw
                    go_wp2
                    go_roundw
                    case rel => exact ⟨k + 1, Aw1, cw - 1, ws, Ao, co, acc, x + y, by omega, by go_num, rfl, IW2, rfl, by omega, rfl, by omega, by omega, hwb2, hwl2, hR3, hown, hbP⟩
                    case measure => simp [intOf]; omega
                · rw [hit, if_neg hk2] at hdl
                  have hwl2 : Hid (ws.length = (glsOf rs (l.drop (k + 1))).length) := by
                    show _ = _; have := unhide hwl; omega
                  have hR3 := place_box hj (by rw [hit]; exact hk2) (unhide hR2)
                  rw [hit] at hR3
                  have HR3 := hide hR3
                  have h0' : (r.kind == 2) = false := by simpa using hk2
                  obtain ⟨b9, off9, r9, e9, hblW, hr9, _, q1, _⟩ := hR.at_ hjn
                  cases e9
                  obtain rfl : r = r9 := by rw [hr] at hr9; exact Option.some.inj hr9
                  clear hr9
                  clear hwl hR2 hr hj hx hit hk2 hdl hR3
                  go_wp2_with (at_builtin; refine wpList_push_P ⟨(j : Int), x⟩ rfl rfl hown rfl rfl (by omega) (by omega) ?_; intro A4 c4 w4 hown4 hg4 ho4; have hb9 := b_own (bmk hbP (.cells #[.int .i64 (j : Int), .int .i64 x] 49)) ho4 (Nat.le_refl _) hg4; have h1' := ((bnext hb1 (bnext hbB hb9)).cell hblW).trans q1)
                  go_roundw
                  case rel => exact ⟨k + 1, Aw, cw, ws, A4, c4, _, x + r.w, by omega, by go_num, rfl, IW, by simp, by simp; omega, rfl, by omega, by omega, hwb, hwl2, HR3, hown4, hb9⟩
                  case measure => simp [intOf]; omega
              · obtain rfl : its.length = k := by omega
                have hR3 := place_end (rs := rs) (by rw [unhide HIL]; exact Nat.le_refl _) (unhide hR2)
                have HE0 := unhide HER
                have hxE : x + E = setX rs after m width := by rw [(unhide HR2).2, hR3]
                have hpE : setPs rs after m width = acc := by rw [(unhide HR2).1, hR3]
                have HX := hide hxE
                have HPE := hide hpE
                clear hxE hpE hR3 hR2 HE0
                go_wp2
                go_ret3
                rw [unhide HPE, ← unhide HX, unhide HK]
                exact ⟨_, _, by first | rfl | (rw [unhide HER]; simp), own_base hown (by omega), bnext hb1 (bnext hbB hbP)⟩
end Go.Proofs.Ytlklkloadefihaa
