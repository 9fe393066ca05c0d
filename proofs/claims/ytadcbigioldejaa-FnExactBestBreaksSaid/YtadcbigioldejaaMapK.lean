/- The map of the chooser: keys, elements, what is known in it. No condition. -/
import Derived.Test.YtadcbigioldejaaBestP
import Derived.Maps.OwnSet
import Derived.DeepKeys4
namespace Go.Proofs.Ytadcbigioldejaa
open Go.RowKit Go.Maps
set_option linter.unusedVariables false

theorem mk_laid : laidOutB Try.prog = true := by kernel_rfl
theorem mk_row : (64 : TypeId) < Try.prog.types.size := of_decide_eq_true (by kernel_rfl)
theorem mk_wide : (match Try.prog.underlying 64 with | some (.array _ _) | some (.struct _) => true | _ => false) = true := by rw [Try.underlying64]
set_option maxRecDepth 100000 in
theorem mk_law : WideMaps.KeyLaw Try.prog 64 := deep_law_laid mk_laid (m := 2) (by omega) mk_row (by kernel_rfl) mk_wide
theorem mk_keyed : Keyed Try.prog 64 := Keyed.of_law mk_law
theorem mk_type : Try.prog.keyType 64 = true := by kernel_rfl
theorem mk_cells : Try.prog.cellsOf 64 = 3 := by kernel_rfl
theorem mk_cellsI : Try.prog.cellsOf 3 = 1 := by kernel_rfl
theorem mk_cellsB : Try.prog.cellsOf 4 = 1 := by kernel_rfl
def St.val (s : St) : Value := .agg #[.int .i64 s.at_, .bool s.mark, .int .i64 s.looks]
/-- A state whose numbers are ones of the machine. -/
def St.Wf (s : St) : Prop := -1 ≤ s.at_ ∧ s.at_ ≤ 1000 ∧ 0 ≤ s.looks ∧ s.looks ≤ 3
theorem mk_size : ∃ m, Try.prog.types.size = m + 1 := by
  have h : (64 : Nat) < Try.prog.types.size := mk_row
  exact ⟨Try.prog.types.size - 1, by omega⟩
theorem key_some (s : St) (h : s.Wf) : ∃ kl, keyOf Try.prog 64 s.val = some kl := by
  obtain ⟨m, hm⟩ := mk_size
  obtain ⟨h1, h2, h3, h4⟩ := h
  have w1 : (Lit.int .i64 s.at_).wf = true := WalkArith.wf_i64 (by omega)
  have w2 : (Lit.int .i64 s.looks).wf = true := WalkArith.wf_i64 (by omega)
  unfold keyOf
  rw [Try.underlying64]
  simp only [mk_type, St.val, Value.formed, Try.underlying64, mk_cells, hm]
  simp [Program.keyLits, Try.underlying64, mk_cells, Value.cells, mk_cellsI, mk_cellsB, Try.underlying3, Try.underlying4, w1, w2]
theorem lit_any : Nonempty Lit := ⟨.bool false⟩
noncomputable def keyF (s : St) : Lit := @Classical.epsilon Lit lit_any fun l => keyOf Try.prog 64 s.val = some l
theorem key_is {s : St} (h : s.Wf) : keyOf Try.prog 64 s.val = some (keyF s) := Classical.epsilon_spec (key_some s h)
set_option maxRecDepth 100000 in
theorem keyF_lit {s : St} (h : s.Wf) : WideAt.IsKeyLit (keyF s) := mk_keyed.key (key_is h)
theorem keyF_inj {s s' : St} (h : s.Wf) (h' : s'.Wf) (e : keyF s = keyF s') : s = s' := by
  have a := key_is h
  have b := key_is h'
  rw [← e] at b
  have := mk_keyed.inj a b
  obtain ⟨x, y, z⟩ := s
  obtain ⟨x', y', z'⟩ := s'
  simp [St.val] at this
  obtain ⟨rfl, rfl, rfl⟩ := this
  rfl
def Ch.val (c : Ch) : Value := .agg #[.int .i64 c.cost, .int .i64 c.nx.at_, .bool c.nx.mark, .int .i64 c.nx.looks]
def Ch.dat (c : Ch) : DataW Unit := .agg [.lit (.int .i64 c.cost), .lit (.int .i64 c.nx.at_), .lit (.bool c.nx.mark), .lit (.int .i64 c.nx.looks)]
def rdC : Value → Option (DataW Unit × List MemPlace)
  | .agg cs => match cs.toList with
    | [.int .i64 a, .int .i64 b, .bool m, .int .i64 l] => some (.agg [.lit (.int .i64 a), .lit (.int .i64 b), .lit (.bool m), .lit (.int .i64 l)], [])
    | _ => none
  | _ => none
theorem rdC_mk (c : Ch) : rdC c.val = some (c.dat, []) := rfl
theorem rdC_inv {v : Value} {c : Ch} {ps : List MemPlace} (h : rdC v = some (c.dat, ps)) : v = c.val := by
  unfold rdC at h
  split at h
  · rename_i cs
    split at h
    · rename_i a b m l e
      simp [Ch.dat] at h
      obtain ⟨⟨rfl, rfl, rfl, rfl⟩, _⟩ := h
      have : cs = #[.int .i64 c.cost, .int .i64 c.nx.at_, .bool c.nx.mark, .int .i64 c.nx.looks] := Array.toList_inj.1 e
      rw [this]; rfl
    · cases h
  · cases h
theorem zero_ch (w : World) : (zeroValue 85).run Try.prog w = .ok Ch.zero.val w := by kernel_rfl
/-- Every choice that is known is the right one. -/
def MapOk (rs : List Item) (width most : Int) (D : DataW Unit) : Prop := ∀ s : St, s.Wf → Maps.has D (keyF s) = true → D.atKey (keyF s) Ch.zero.dat = (best rs width most s).dat
section
variable {rs : List Item} {width most : Int} {w : World} {bm cnt : Nat} {D : DataW Unit} {s : St}
theorem look_ch (h : w.ownsMap Try.prog 64 rdC bm cnt D) (ok : MapOk rs width most D) (hs : s.Wf) :
    (Maps.has D (keyF s) = true ∧ (Instr.lookup 81 (.map (some bm)) s.val true).run Try.prog w = .ok (.tuple #[(best rs width most s).val, .bool true]) w) ∨
    (Maps.has D (keyF s) = false ∧ (Instr.lookup 81 (.map (some bm)) s.val true).run Try.prog w = .ok (.tuple #[Ch.zero.val, .bool false]) w) := by
  obtain ⟨v, ps, hrun, hv⟩ := h.look_ok mk_keyed Try.underlying81 (zero_ch w) (rdC_mk Ch.zero) (key_is hs)
  cases hh : Maps.has D (keyF s)
  · right
    rw [atKey_of_not_has hh] at hv
    rw [hh, rdC_inv hv] at hrun
    exact ⟨rfl, hrun⟩
  · left
    rw [ok s hs hh] at hv
    rw [hh, rdC_inv hv] at hrun
    exact ⟨rfl, hrun⟩
theorem look_yes (h : w.ownsMap Try.prog 64 rdC bm cnt D) (ok : MapOk rs width most D) (hs : s.Wf) (hh : Maps.has D (keyF s) = true) :
    (Instr.lookup 81 (.map (some bm)) s.val true).run Try.prog w = .ok (.tuple #[(best rs width most s).val, .bool true]) w := by
  rcases look_ch h ok hs with ⟨_, h2⟩ | ⟨h1, _⟩
  · exact h2
  · rw [hh] at h1; cases h1
theorem look_no (h : w.ownsMap Try.prog 64 rdC bm cnt D) (ok : MapOk rs width most D) (hs : s.Wf) (hh : Maps.has D (keyF s) = false) :
    (Instr.lookup 81 (.map (some bm)) s.val true).run Try.prog w = .ok (.tuple #[Ch.zero.val, .bool false]) w := by
  rcases look_ch h ok hs with ⟨h1, _⟩ | ⟨_, h2⟩
  · rw [hh] at h1; cases h1
  · exact h2
theorem put_ch (h : w.ownsMap Try.prog 64 rdC bm cnt D) (ok : MapOk rs width most D) (hs : s.Wf) (hn : cnt < maxLen) :
    ∃ w' D', (Instr.mapUpdate 81 (.map (some bm)) s.val (best rs width most s).val).run Try.prog w = .ok () w' ∧ w'.ownsMap Try.prog 64 rdC bm (cnt + 1) D' ∧ MapOk rs width most D' ∧ w.grownBy w' (some bm) := by
  obtain ⟨w', hrun, h2, ht⟩ := h.store mk_keyed Try.underlying81 hn (key_is hs) (rdC_mk (best rs width most s))
  refine ⟨w', _, hrun, h2, ?_, ht.grown⟩
  intro s' hs' hh
  by_cases e : keyF s' = keyF s
  · obtain rfl := keyF_inj hs' hs e
    exact atKey_put_same h.isMap (keyF_lit hs) _ _
  · rw [has_put_other e] at hh
    rw [atKey_put_other e]
    exact ok s' hs' hh
end
theorem map_new (w : World) : (w.alloc (.map #[] 0)).ownsMap Try.prog 64 rdC w.heap.size 0 (.map []) := World.ownsMap_made _ _ _ _
theorem mapOk_new (rs : List Item) (width most : Int) : MapOk rs width most (.map []) := by
  intro s _ h
  simp [Maps.has_eq] at h
/-- The chooser in memory: its list, its fields, and its map, in which every choice is right. -/
structure ChM (rs : List Item) (width most : Int) (A : Option Addr) (n c gC bm cnt : Nat) (w : World) : Prop where
  items : ItemsAt w A n c rs
  blk : Blk w gC 83 #[.slice A n c, .int .i64 width, .int .i64 most, .map (some bm)]
  map : ∃ D, w.ownsMap Try.prog 64 rdC bm cnt D ∧ MapOk rs width most D
section
variable {rs : List Item} {width most : Int} {A : Option Addr} {n c gC bm cnt : Nat} {w w' : World}
theorem map_lt {D : DataW Unit} (h : w.ownsMap Try.prog 64 rdC bm cnt D) : bm < w.heap.size := by
  obtain ⟨es, clock, hb, _⟩ := h
  exact (Array.getElem?_eq_some_iff.1 hb).1
theorem map_next {D : DataW Unit} (h : w.ownsMap Try.prog 64 rdC bm cnt D) (hb : Below w.heap.size w w') : w'.ownsMap Try.prog 64 rdC bm cnt D := by
  have hl := map_lt h
  obtain ⟨es, clock, hg, r⟩ := h
  exact ⟨es, clock, (hb.block bm hl).trans hg, r⟩
theorem ChM.next (h : ChM rs width most A n c gC bm cnt w) (hb : Below w.heap.size w w') : ChM rs width most A n c gC bm cnt w' := by
  obtain ⟨D, hm, ok⟩ := h.map
  exact ⟨h.items.next hb, h.blk.next hb, D, map_next hm hb, ok⟩
/-- A list of items lies in another block than a map. -/
theorem items_turn (h : ItemsAt w A n c rs) (hm : ∃ es clock, w.heap[bm]? = some (.map es clock)) (hg : w.grownBy w' (some bm)) : ItemsAt w' A n c rs := by
  refine ⟨⟨Rd.len h.1, fun hn => ?_⟩, h.2⟩
  obtain ⟨b, off, e, hl, hc⟩ := Rd.cells h.1 hn
  obtain ⟨es, clock, hb⟩ := hm
  refine ⟨b, off, e, Nat.lt_of_lt_of_le hl hg.size, fun j u hu => ?_⟩
  have h0 := hc j u hu
  have hne : b ≠ bm := by
    intro e2
    subst e2
    simp [World.cell?, hb] at h0
  rw [← h0]
  exact World.cell?_of_block (hg.block b hl (fun e2 => hne (Option.some.inj e2)))
theorem ChM.turned {D : DataW Unit} {cnt' : Nat} (h : ChM rs width most A n c gC bm cnt w) (hg : w.grownBy w' (some bm)) (hm : w'.ownsMap Try.prog 64 rdC bm cnt' D) (ok : MapOk rs width most D) : ChM rs width most A n c gC bm cnt' w' := by
  obtain ⟨D0, ⟨es, clock, hb, _⟩, _⟩ := h.map
  refine ⟨items_turn h.items ⟨es, clock, hb⟩ hg, h.blk.grown hg (fun e => ?_), D, hm, ok⟩
  have hblk := h.blk
  injection e with e
  subst e
  unfold Blk at hblk
  rw [hb] at hblk
  cases hblk
end
end Go.Proofs.Ytadcbigioldejaa
