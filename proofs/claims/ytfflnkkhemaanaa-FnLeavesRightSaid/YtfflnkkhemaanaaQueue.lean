/- A queue of int: a slice of the call's own whose first elements may have been taken away, and an append to it. No condition. -/
import Derived.Test.YtfflnkkhemaanaaIntRow
namespace Go.Proofs.Ytfflnkkhemaanaa
open Go.RowKit
set_option linter.unusedVariables false

def OwnQ (w : World) (B : Nat) (A : Option Addr) (c : Nat) (xs : List Int) : Prop :=
  (A = none ∧ xs = [] ∧ c = 0) ∨ ∃ g off cur, A = some ⟨g, off, none⟩ ∧ B ≤ g ∧ w.heap[g]? = some (.cells cur 3 (0, 0)) ∧ xs.length ≤ c ∧ c ≤ maxLen ∧ off + c ≤ cur.size ∧ (cur.toList.drop off).take xs.length = xs.map (Value.int .i64)
section
variable {w w' : World} {B c : Nat} {A : Option Addr} {xs : List Int}
theorem OwnQ.nil_ (w : World) (B : Nat) : OwnQ w B none 0 [] := .inl ⟨rfl, rfl, rfl⟩
theorem OwnQ.of (h : OwnI w B A c xs) : OwnQ w B A c xs := by
  rcases h.2 with ⟨hv, h0⟩ | ⟨g, cap, cur, hv, hb, hg, hn, hm, hs, ht⟩
  · injection hv with hA _ hc
    exact .inl ⟨hA, List.eq_nil_of_length_eq_zero h0, hc⟩
  · injection hv with hA _ hc
    subst hc
    refine .inr ⟨g, 0, cur, hA, hb, hg, hn, hm, by omega, ?_⟩
    rw [List.drop_zero, ← ht, Nat.mul_one]
theorem OwnQ.lt (h : OwnQ w B A c xs) {a : Addr} (e : A = some a) : B ≤ a.block ∧ a.block < w.heap.size := by
  rcases h with ⟨rfl, _⟩ | ⟨g, off, cur, rfl, hb, hg, _⟩
  · cases e
  · injection e with e; subst e
    exact ⟨hb, (Array.getElem?_eq_some_iff.1 hg).1⟩
theorem OwnQ.kept {row : Option Nat} (h : OwnQ w B A c xs) (hg : w.grownBy w' row) (hne : ∀ a, A = some a → some a.block ≠ row) : OwnQ w' B A c xs := by
  rcases h with h | ⟨g, off, cur, rfl, hb, hgg, rest⟩
  · exact .inl h
  · exact .inr ⟨g, off, cur, rfl, hb, (hg.block g (Array.getElem?_eq_some_iff.1 hgg).1 (hne _ rfl)).trans hgg, rest⟩
theorem OwnQ.next (h : OwnQ w B A c xs) (hb : Below w.heap.size w w') : OwnQ w' B A c xs :=
  h.kept (row := none) ⟨hb.os, hb.tape, hb.output, hb.size, fun i hi _ => hb.block i hi⟩ (by simp)
theorem OwnQ.alloc (h : OwnQ w B A c xs) (o : Obj) : OwnQ (w.alloc o) B A c xs := h.next (bof w o)
theorem OwnQ.bd (h : OwnQ w B A c xs) : xs.length ≤ c ∧ c ≤ 9223372036854775807 := by
  rcases h with ⟨_, rfl, rfl⟩ | ⟨g, off, cur, _, _, _, h1, h2, _⟩
  · exact ⟨Nat.le_refl _, by omega⟩
  · unfold maxLen at h2; exact ⟨h1, h2⟩
theorem OwnQ.at_ (h : OwnQ w B A c xs) : IntsAt w A xs.length c xs := by
  have hbd := h.bd
  rcases h with ⟨rfl, rfl, rfl⟩ | ⟨g, off, cur, rfl, _, hg, h1, _, _, ht⟩
  · exact IntsAt.nil _ _ _ (by omega)
  · refine ⟨⟨by simp, fun _ => ⟨g, off, rfl, (Array.getElem?_eq_some_iff.1 hg).1, fun j u hu => ?_⟩⟩, hbd⟩
    rw [cell_of_row w g _ cur _ _ hg]
    rw [← ht, List.getElem?_take] at hu
    split at hu
    · rw [List.getElem?_drop] at hu; simpa using hu
    · cases hu
/-- The first element taken away. -/
theorem OwnQ.tail {x : Int} (h : OwnQ w B A c (x :: xs)) : ∃ b off A1, A = some ⟨b, off, none⟩ ∧ w.cell? ⟨b, off, none⟩ = some (.int .i64 x) ∧ OwnQ w B A1 (c - 1) xs ∧ A1.map Addr.block = some b ∧
    ∀ wx : World, (Instr.slice 24 (.slice (some ⟨b, off, none⟩) (xs.length + 1) c) (some (.int .i64 1)) none none).run Try.prog wx = .ok (.slice A1 xs.length (c - 1)) wx := by
  have hbd := h.bd
  rcases h with ⟨_, h2, _⟩ | ⟨g, off, cur, rfl, hb, hg, h1, h2, h3, ht⟩
  · cases h2
  · have h1' := h1
    rw [List.length_cons] at h1'
    have hc : (cur.toList.drop off) = Value.int .i64 x :: cur.toList.drop (off + 1) ∧ (cur.toList.drop (off + 1)).take xs.length = xs.map (Value.int .i64) := by
      have hl : off < cur.toList.length := by rw [Array.length_toList]; omega
      rw [List.drop_eq_getElem_cons hl] at ht ⊢
      rw [List.length_cons, List.take_succ_cons, List.map_cons] at ht
      injection ht with t1 t2
      rw [t1]; exact ⟨rfl, t2⟩
    refine ⟨g, off, if c = 1 then some ⟨g, off, none⟩ else some ⟨g, off + 1, none⟩, rfl, ?_, ?_, by split <;> rfl, fun wx => ?_⟩
    · rw [cell_of_row w g _ cur _ _ hg]
      have : (cur.toList.drop off)[0]? = some (Value.int .i64 x) := by rw [hc.1]; rfl
      rw [List.getElem?_drop] at this; simpa using this
    · split
      · rename_i hc1
        subst hc1
        have hx : xs = [] := List.eq_nil_of_length_eq_zero (by omega)
        subst hx
        exact .inr ⟨g, off, cur, rfl, hb, hg, by simp, by omega, by omega, by simp⟩
      · exact .inr ⟨g, off + 1, cur, rfl, hb, hg, by omega, by omega, by omega, hc.2⟩
    · have h7 : ¬ ((xs.length : Int) + 1 < 1) := by omega
      simp [go_sem, h7]
theorem OwnQ.base {B' : Nat} (h : OwnQ w B A c xs) (hB : B' ≤ B) : OwnQ w B' A c xs := by
  rcases h with h | ⟨g, off, cur, rfl, hb, rest⟩
  · exact .inl h
  · exact .inr ⟨g, off, cur, rfl, by omega, rest⟩
end
section
variable {P : Program}
theorem run_append_room_off (w : World) (t ty e : TypeId) (i : TypeInfo) (ht : P.underlying t = some (.slice e)) (hi : P.info? e = some i) (hs : i.size = 1)
    (g off sLen sCap : Nat) (cur : Array Value) (hg : w.heap[g]? = some (.cells cur e (0, 0)))
    (a : Addr) (m c : Nat) (news : List Value) (hl : news.length = m) (hnews : ∀ j u, news[j]? = some u → w.cell? (a.add j) = some u) (h1 : ∀ u ∈ news, u.oneCell' = true)
    (hroom : sLen + m ≤ sCap) (hfit : off + sLen + news.length ≤ cur.size) :
    (Builtin.append_ #[t, t] ty #[.slice (some ⟨g, off, none⟩) sLen sCap, .slice (some a) m c]).run P w =
      .ok (.slice (some ⟨g, off, none⟩) (sLen + m) sCap) (w.setRow g (cur.toList.take (off + sLen) ++ news ++ cur.toList.drop (off + sLen + news.length)).toArray) := by
  have hf := run_firstCells_some (P := P) w i.size m a m c news (by rw [hl, hs, Nat.mul_one]) hnews
  have hst := run_storeCells_at P g (off + sLen) e news 0 cur w hg (by simpa using hfit) h1
  simp only [Nat.add_zero] at hst
  rw [hs] at hf
  simp [Builtin.append_, run_underlying ht, sizeOf, typeInfo, hi, hs, Builtin.lenOf, hroom, hf, Addr.add_lit, hst]
end
theorem run_append_Q (w : World) (B : Nat) (ty : TypeId) (A : Option Addr) (c : Nat) (xs : List Int) (h : OwnQ w B A c xs) (ad : Addr) (cc : Nat) (r : Int) (hr : w.cell? ad = some (.int .i64 r)) (hlen : xs.length ≤ 1000000000) (hB : B ≤ w.heap.size) :
    ∃ A' c' w', (Builtin.append_ #[24, 24] ty #[.slice A xs.length c, .slice (some ad) 1 cc]).run Try.prog w = .ok (.slice A' (xs.length + 1) c') w' ∧ OwnQ w' B A' c' (xs ++ [r]) ∧ w.grownBy w' (A.map Addr.block) ∧
      (A'.map Addr.block = A.map Addr.block ∨ A'.map Addr.block = some w.heap.size) := by
  obtain ⟨i, hi, hz, hs, hby⟩ := info_parts infoInt
  have ht : Try.prog.underlying 24 = some (.slice 3) := Try.underlying24
  have hnews : ∀ j u, [Value.int .i64 r][j]? = some u → w.cell? (ad.add j) = some u := by
    intro j u hu
    match j, hu with
    | 0, hu => simp at hu; subst hu; rw [show ad.add 0 = ad by unfold Addr.add; simp]; exact hr
  have h1 := one_one r
  have hfresh : ∀ old : Nat, old < xs.length + 1 → OwnQ (w.drew.alloc (.cells ((xs.map (Value.int .i64)).toArray ++ [Value.int .i64 r].toArray ++ Builtin.zeroCells (Value.int .i64 0).cells (grownCap w (xs.length + 1) old 3 - (xs.length + 1))) 3)) B (some ⟨w.heap.size, 0, none⟩) (grownCap w (xs.length + 1) old 3) (xs ++ [r]) := by
    intro old ho
    have hge := grownCap_ge w (xs.length + 1) old 3
    have hcm := grownCap_le_maxLen w (xs.length + 1) old 3 (by unfold maxLen; omega)
    refine .inr ⟨w.heap.size, 0, _, rfl, hB, heap_alloc_new w.drew _, by simp; omega, hcm, ?_, ?_⟩
    · simp only [Array.size_append, List.size_toArray, List.length_map, size_zeroCells]
      simp [Value.cells]; omega
    · rw [List.drop_zero]
      simp only [Array.toList_append, List.append_assoc, List.map_append]
      rw [← List.append_assoc]
      have : (xs ++ [r]).length = (xs.map (Value.int .i64) ++ [Value.int .i64 r]).length := by simp
      rw [this]
      exact List.take_left
  rcases h with ⟨rfl, rfl, rfl⟩ | ⟨g, off, cur, rfl, hb, hg, hn, hm, hsz, htk⟩
  · have hrun := run_append_nil (P := Try.prog) w 24 ty 3 i (.int .i64 0) ht hi hz ad 1 cc [.int .i64 r] (by rw [hs]; rfl) hnews (by omega) (by omega) (by rw [hby]; omega)
    refine ⟨_, _, _, hrun, by simpa using hfresh 0 (by simp), ⟨rfl, rfl, rfl, by simp, fun k hk _ => Below.heap_alloc w.drew _ k hk⟩, .inr rfl⟩
  · by_cases hroom : xs.length + 1 ≤ c
    · have hrun := run_append_room_off (P := Try.prog) w 24 ty 3 i ht hi hs g off xs.length c cur hg ad 1 cc [.int .i64 r] rfl hnews h1 hroom (by simp; omega)
      refine ⟨_, _, _, hrun, ?_, ⟨rfl, rfl, rfl, by simp, fun k _ hk => setRow_other w g k _ (fun e => hk (by simp [e]))⟩, .inl rfl⟩
      refine .inr ⟨g, off, _, rfl, hb, setRow_heap w g cur _ _ _ hg, by simpa using hroom, hm, ?_, ?_⟩
      · simp only [List.size_toArray, List.length_append, List.length_take, List.length_drop, Array.length_toList, List.length_cons, List.length_nil]
        omega
      · have hl : off + xs.length ≤ cur.toList.length := by
          have : cur.toList.length = cur.size := by simp
          omega
        rw [List.append_assoc, List.drop_append_of_le_length (by rw [List.length_take]; omega), List.map_append]
        have e1 : (cur.toList.take (off + xs.length)).drop off = xs.map (Value.int .i64) := by
          rw [List.drop_take, Nat.add_sub_cancel_left]; exact htk
        rw [e1, ← List.append_assoc]
        have : (xs ++ [r]).length = (xs.map (Value.int .i64) ++ [Value.int .i64 r]).length := by simp
        rw [this]
        exact List.take_left
    · have holds : ∀ j u, (xs.map (Value.int .i64))[j]? = some u → w.cell? ((⟨g, off, none⟩ : Addr).add j) = some u := by
        intro j u hu
        rw [add_lit', cell_of_row w g _ cur _ _ hg]
        rw [← htk, List.getElem?_take] at hu
        split at hu
        · rw [List.getElem?_drop] at hu; simpa using hu
        · cases hu
      have hrun := run_append_grow (P := Try.prog) w 24 ty 3 i (.int .i64 0) ht hi hz ⟨g, off, none⟩ xs.length c (xs.map (Value.int .i64)) (by rw [hs]; simp) holds ad 1 cc [.int .i64 r] (by rw [hs]; rfl) hnews (by omega) (by omega) (growslice_fits (by omega) (by rw [hby]; omega))
      exact ⟨_, _, _, hrun, hfresh c (by omega), ⟨rfl, rfl, rfl, by simp, fun k hk _ => Below.heap_alloc w.drew _ k hk⟩, .inr rfl⟩
/-- An append of one number to a queue, at the operation. -/
theorem wpList_push_Q {ops : Array Oper} {rest : List Oper} {o : Oper} {a : Act} {Q : Exit → Act → World → Prop} {B : Nat} {w : World} {s x : Operand} {A : Option Addr} {c : Nat} {rs : List Int} (r : Int) (hw : o.guard = none)
    (ho : o.op = .call { callee := .builtin .append, args := #[s, x], argTypes := #[24, 24] }) (hown : OwnQ w B A c rs) (hs : a.eval s = .slice A rs.length c) (hx : a.eval x = .slice (some ⟨w.heap.size, 0, none⟩) 1 1) (hlen : rs.length ≤ 1000000000) (hB : B ≤ w.heap.size)
    (h : ∀ A' c' w', OwnQ w' B A' c' (rs ++ [r]) → (w.alloc (.cells #[.int .i64 r] 3)).grownBy w' (A.map Addr.block) →
      (∀ g, g < w.heap.size → A.map Addr.block ≠ some g → A'.map Addr.block ≠ some g) → wpList Try.prog ops Q rest (a.put o.dst (.slice A' (rs.length + 1) c')) w') :
    wpList Try.prog ops Q (o :: rest) a (w.alloc (.cells #[.int .i64 r] 3)) := by
  refine wpList_plain hw fun K hK => ?_
  obtain ⟨A', c', w', hr, h2, h3, h4⟩ := run_append_Q (w.alloc (.cells #[.int .i64 r] 3)) B o.type A c rs (hown.alloc _) ⟨w.heap.size, 0, none⟩ 1 r ((Blk.new w 3 #[.int .i64 r]).cell 0) hlen (by simp; omega)
  unfold Oper.wp execOp
  simp only [ho, resolve, invoke, builtin, Sem.run_bind, Sem.run_pure, Result.andThen_ok, List.map_toArray, List.map_cons, List.map_nil, hs, hx, hr]
  refine hK _ _ (h A' c' w' h2 h3 fun g hg hne => ?_)
  rcases h4 with e | e
  · rw [e]; exact hne
  · rw [e]; simp only [size_alloc']; intro e2; injection e2 with e2; omega
end Go.Proofs.Ytfflnkkhemaanaa
