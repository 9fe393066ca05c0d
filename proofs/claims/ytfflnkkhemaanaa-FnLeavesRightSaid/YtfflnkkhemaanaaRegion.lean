/- A region that draws its order, by a law: what each operation leaves is known of whatever order (a property of the value, in whatever later world). No condition. -/
import Derived.Orders
import Derived.RegionTactic
namespace Go.Proofs.Ytfflnkkhemaanaa
set_option linter.unusedVariables false
section
variable {P : Program}

def putL : List Oper → (Nat → Value) → Nat → Act → Act
  | [], _, _, a => a
  | o :: l, v, k, a => putL l v (k + 1) (a.put o.dst (v k))
def putS : List Oper → (Nat → Value) → (Nat → Bool) → Nat → Act → Act
  | [], _, _, _, a => a
  | o :: l, v, d, k, a => putS l v d (k + 1) (if d k then a.put o.dst (v k) else a)
theorem putS_all : ∀ (l : List Oper) (v : Nat → Value) (d : Nat → Bool) (k : Nat) (a : Act), (∀ j, j < l.length → d (k + j) = true) → putS l v d k a = putL l v k a
  | [], _, _, _, _, _ => rfl
  | o :: l, v, d, k, a, h => by
    have h0 := h 0 (by simp)
    rw [Nat.add_zero] at h0
    rw [putS, putL, if_pos h0]
    exact putS_all l v d (k + 1) _ (fun j hj => by have := h (j + 1) (by simpa using hj); rwa [show k + 1 + j = k + (j + 1) by omega])
theorem putS_none : ∀ (l : List Oper) (v : Nat → Value) (d : Nat → Bool) (k : Nat) (a : Act), (∀ j, j < l.length → d (k + j) = false) → putS l v d k a = a
  | [], _, _, _, _, _ => rfl
  | o :: l, v, d, k, a, h => by
    have h0 := h 0 (by simp)
    rw [Nat.add_zero] at h0
    rw [putS, if_neg (by simp [h0])]
    exact putS_none l v d (k + 1) _ (fun j hj => by have := h (j + 1) (by simpa using hj); rwa [show k + 1 + j = k + (j + 1) by omega])
theorem putS_congr : ∀ (l : List Oper) (v v' : Nat → Value) (d d' : Nat → Bool) (k : Nat) (a : Act), (∀ j, k ≤ j → v j = v' j ∧ d j = d' j) → putS l v d k a = putS l v' d' k a
  | [], _, _, _, _, _, _, _ => rfl
  | o :: l, v, v', d, d', k, a, h => by
    obtain ⟨h1, h2⟩ := h k (Nat.le_refl _)
    rw [putS, putS, h1, h2]
    exact putS_congr l v v' d d' (k + 1) _ (fun j hj => h j (by omega))
theorem putS_put : ∀ (l : List Oper) (v : Nat → Value) (d : Nat → Bool) (k : Nat) (a : Act) (x : Option Tmp) (u : Value), (∀ p ∈ l, ∀ t, x = some t → p.dst ≠ some t) → (putS l v d k a).put x u = putS l v d k (a.put x u)
  | [], _, _, _, _, _, _, _ => rfl
  | o :: l, v, d, k, a, x, u, h => by
    rw [putS, putS, putS_put l v d (k + 1) _ x u (fun p hp => h p (by simp [hp]))]
    congr 1
    split
    · exact (Act.put_comm a u (v k) (fun t ht => h o (by simp) t ht)).symm
    · rfl
def updV (v : Nat → Value) (i : Nat) (u : Value) : Nat → Value := fun j => if j = i then u else v j
def updB (d : Nat → Bool) (i : Nat) : Nat → Bool := fun j => if j = i then true else d j
theorem putS_one : ∀ (l : List Oper) (v : Nat → Value) (d : Nat → Bool) (k m : Nat) (a : Act) (o : Oper) (u : Value), l[m]? = some o → d (k + m) = false →
    (∀ j p, l[j]? = some p → j ≠ m → ∀ t, o.dst = some t → p.dst ≠ some t) → (putS l v d k a).put o.dst u = putS l (updV v (k + m) u) (updB d (k + m)) k a
  | [], _, _, _, _, _, _, _, h, _, _ => by simp at h
  | q :: l, v, d, k, 0, a, o, u, h, hd, hx => by
    simp at h; subst h
    rw [Nat.add_zero] at hd ⊢
    rw [putS, putS, if_neg (by simp [hd]), if_pos (by simp [updB]), putS_put l v d (k + 1) a q.dst u (fun p hp t ht => by
      obtain ⟨j, hj⟩ := List.getElem?_of_mem hp
      exact hx (j + 1) p (by simpa using hj) (by omega) t ht)]
    rw [show updV v k u k = u by simp [updV]]
    exact putS_congr l _ _ _ _ _ _ (fun j hj => by simp [updV, updB, show j ≠ k by omega])
  | q :: l, v, d, k, m + 1, a, o, u, h, hd, hx => by
    rw [putS, putS, putS_one l v d (k + 1) m _ o u (by simpa using h) (by rwa [show k + 1 + m = k + (m + 1) by omega]) (fun j p hj hm t ht => hx (j + 1) p (by simpa using hj) (by omega) t ht)]
    rw [show k + 1 + m = k + (m + 1) by omega, show updV v (k + (m + 1)) u k = v k by simp [updV], show updB d (k + (m + 1)) k = d k by simp [updB]]
theorem putS_tmps (t : Nat) : ∀ (l : List Oper) (v : Nat → Value) (d : Nat → Bool) (k : Nat) (a a' : Act), (∀ j p, l[j]? = some p → p.dst = some t → d (k + j) = true) →
    a.tmps[t]? = a'.tmps[t]? → a.tmps.size = a'.tmps.size → (putS l v d k a).tmps[t]? = (putL l v k a').tmps[t]?
  | [], _, _, _, _, _, _, h, _ => h
  | o :: l, v, d, k, a, a', hd, h, hz => by
    rw [putS, putL]
    refine putS_tmps t l v d (k + 1) _ _ (fun j p hj hp => by have := hd (j + 1) p (by simpa using hj) hp; rwa [show k + 1 + j = k + (j + 1) by omega]) ?_ ?_
    · have h0 := hd 0 o (by simp)
      rw [Nat.add_zero] at h0
      cases ho : o.dst with
      | none => split <;> simpa [Act.put] using h
      | some x =>
        by_cases hx : x = t
        · subst hx
          rw [if_pos (h0 ho)]
          simp [Act.put, Array.getElem?_setIfInBounds, hz]
        · split <;> simp [Act.put, Array.getElem?_setIfInBounds_ne hx, h]
    · cases ho : o.dst with
      | none => split <;> simpa [Act.put] using hz
      | some x => split <;> simp [Act.put, hz]
theorem putS_size : ∀ (l : List Oper) (v : Nat → Value) (d : Nat → Bool) (k : Nat) (a : Act), (putS l v d k a).tmps.size = a.tmps.size ∧ (putS l v d k a).defers = a.defers
  | [], _, _, _, _ => ⟨rfl, rfl⟩
  | o :: l, v, d, k, a => by
    rw [putS]
    obtain ⟨h1, h2⟩ := putS_size l v d (k + 1) (if d k = true then a.put o.dst (v k) else a)
    rw [h1, h2]
    split
    · cases o.dst <;> simp [Act.put]
    · exact ⟨rfl, rfl⟩
theorem putL_eq (l : List Oper) (v : Nat → Value) (k : Nat) (a : Act) : putL l v k a = putS l v (fun _ => true) k a := (putS_all l v _ k a (fun _ _ => rfl)).symm

/-- The Bool that the law asks: every operation waits for those whose temporaries it looks at; they come before it; each writes a temporary of its own. -/
def tyOK (md : Region.Mode) (ops : Array Oper) : Bool :=
  Region.noSelect ops && (List.range ops.size).all fun i =>
    match ops[i]? with
    | none => true
    | some o =>
      (o.after.all fun e => !Region.binds md e || decide (e.on < i)) &&
      ((o.looksAt ops).all fun t => (List.range ops.size).all fun j =>
        match ops[j]? with
        | none => true
        | some p => p.dst != some t || o.after.any fun e => Region.binds md e && e.on == j) &&
      ((List.range ops.size).all fun j =>
        match ops[j]? with
        | none => true
        | some p => j == i || p.dst == none || p.dst != o.dst)
theorem tyOK_spec {md : Region.Mode} {ops : Array Oper} (h : tyOK md ops = true) : Region.noSelect ops = true ∧ ∀ i o, ops[i]? = some o →
    (∀ e ∈ o.after, Region.binds md e = true → e.on < i) ∧ (∀ t ∈ o.looksAt ops, ∀ j p, ops[j]? = some p → p.dst = some t → ∃ e ∈ o.after, Region.binds md e = true ∧ e.on = j) ∧
    (∀ j p, ops[j]? = some p → j ≠ i → ∀ t, o.dst = some t → p.dst ≠ some t) := by
  unfold tyOK at h
  rw [Bool.and_eq_true] at h
  obtain ⟨h1, h2⟩ := h
  refine ⟨h1, fun i o hi => ?_⟩
  have hil : i < ops.size := (Array.getElem?_eq_some_iff.1 hi).1
  have h3 := (List.all_eq_true.1 h2) i (List.mem_range.2 hil)
  simp only [hi, Bool.and_eq_true] at h3
  obtain ⟨⟨h3, h4⟩, h5⟩ := h3
  refine ⟨fun e he hb => ?_, fun t ht j p hj hp => ?_, fun j p hj hne t ht hpt => ?_⟩
  · have := (Array.all_eq_true_iff_forall_mem.1 h3) e he
    simpa [hb] using this
  · have hjl : j < ops.size := (Array.getElem?_eq_some_iff.1 hj).1
    have h6 := (List.all_eq_true.1 ((List.all_eq_true.1 h4) t ht)) j (List.mem_range.2 hjl)
    simp only [hj, hp, bne_self_eq_false, Bool.false_or] at h6
    obtain ⟨q, hq, hb⟩ := Array.any_eq_true.1 h6
    obtain ⟨e, he, hb⟩ : ∃ e, e ∈ o.after ∧ (Region.binds md e && e.on == j) = true := ⟨o.after[q], Array.getElem_mem _, hb⟩
    rw [Bool.and_eq_true] at hb
    exact ⟨e, he, hb.1, by simpa using hb.2⟩
  · have hjl : j < ops.size := (Array.getElem?_eq_some_iff.1 hj).1
    have h6 := (List.all_eq_true.1 h5) j (List.mem_range.2 hjl)
    simp only [hj, hpt, ht] at h6
    simp [hne] at h6

theorem put_inj {A a : Act} {d : Option Tmp} {u v : Value} (hz : A.tmps.size = a.tmps.size) (h : A.put d v = A.put d u) : a.put d v = a.put d u := by
  cases d with
  | none => rfl
  | some t =>
    by_cases ht : t < A.tmps.size
    · have e : (A.put (some t) v).tmps[t]? = (A.put (some t) u).tmps[t]? := by rw [h]
      simp [Act.put, ht] at e
      rw [e]
    · have ht' : a.tmps.size ≤ t := Nat.le_of_not_lt (hz ▸ ht)
      simp only [Act.put]
      rw [Array.setIfInBounds_eq_of_size_le ht', Array.setIfInBounds_eq_of_size_le ht']
theorem wp_shift {o : Oper} {A a : Act} {w : World} {K' : Act → World → Prop} {Q : Exit → Act → World → Prop} (hz : A.tmps.size = a.tmps.size) (hsame : execOp a.eval o = execOp A.eval o)
    (h : o.wp P A w (fun a' w' => ∃ u, a' = A.put o.dst u ∧ K' (a.put o.dst u) w') (fun _ _ _ => False)) : o.wp P a w K' Q := by
  unfold Oper.wp at *
  rw [hsame]
  generalize (execOp A.eval o).run P w = r at *
  cases r with
  | ok n w' =>
    cases n <;> simp only [Oper.upon] at h ⊢
    case value v => obtain ⟨u, hu, hk⟩ := h; rw [put_inj hz hu]; exact hk
    case skip => obtain ⟨u, hu, hk⟩ := h; rw [put_inj hz hu]; exact hk
    case defer d =>
      obtain ⟨u, hu, hk⟩ := h
      have := congrArg (fun x => x.defers.length) hu
      exfalso
      cases hd : o.dst <;> simp [Act.put, hd] at this
    case enter f args =>
      refine Calls.mono h fun e w'' he => ?_
      cases e with
      | returned v => obtain ⟨u, hu, hk⟩ := he; show K' _ _; rw [put_inj hz hu]; exact hk
      | panicked c => exact he.elim
      | outgrown => exact absurd he (by unfold LetsOut; simp)
    case row row args =>
      refine Rows.mono h fun v w'' he => ?_
      obtain ⟨u, hu, hk⟩ := he; rw [put_inj hz hu]; exact hk
  | halt x w' => cases x <;> simp only [Oper.upon] at h <;> exact h.elim

/-- An operation waits for the operation j. -/
def hasDep (md : Region.Mode) (o : Oper) (j : Nat) : Bool := o.after.any fun e => Region.binds md e && e.on == j
/-- What is known of the operations that an operation waits for. -/
def DepsOf (md : Region.Mode) (T : Nat → Value → World → Prop) (v : Nat → Value) (w : World) (o : Oper) : Prop := ∀ j, hasDep md o j = true → T j (v j) w
/-- What is to be shown of one operation. -/
structure OblOne (P : Program) (md : Region.Mode) (ops : Array Oper) (T : Nat → Value → World → Prop) (J : Nat → World → Prop) (R : World → World → Prop) (A : (Nat → Value) → Act) (i : Nat) (o : Oper) : Prop where
  out : ∀ (v : Nat → Value) (k : Nat) (w : World), k < ops.size → J k w → DepsOf md T v w o → (∀ K : Act → World → Prop, (∀ u w', T i u w' → J (k + 1) w' → R w w' → K ((A v).put o.dst u) w') →
    if Region.wanted o (yielded ops (A v).tmps) = true then o.wp P (A v) w K (fun _ _ _ => False) else K ((A v).put o.dst undef) w)
def Obl (P : Program) (md : Region.Mode) (ops : Array Oper) (T : Nat → Value → World → Prop) (J : Nat → World → Prop) (R : World → World → Prop) (A : (Nat → Value) → Act) : List Oper → Nat → Prop
  | [], _ => True
  | o :: l, i => OblOne P md ops T J R A i o ∧ Obl P md ops T J R A l (i + 1)
theorem Obl.at_ {md : Region.Mode} {ops : Array Oper} {T : Nat → Value → World → Prop} {J : Nat → World → Prop} {R : World → World → Prop} {A : (Nat → Value) → Act} : ∀ {l : List Oper} {i : Nat}, Obl P md ops T J R A l i → ∀ j o, l[j]? = some o → OblOne P md ops T J R A (i + j) o
  | [], _, _, _, _, h => by simp at h
  | q :: l, i, h, 0, o, ho => by simp at ho; subst ho; exact h.1
  | q :: l, i, h, j + 1, o, ho => by
    have := Obl.at_ h.2 j o (by simpa using ho)
    rwa [show i + 1 + j = i + (j + 1) by omega] at this
/-- What is known behind the region. -/
def AllT (T : Nat → Value → World → Prop) (v : Nat → Value) (w : World) (n : Nat) : Prop := ∀ j, j < n → T j (v j) w

section main
variable {md : Region.Mode} {l : List Oper} {Q : Exit → Act → World → Prop} {T : Nat → Value → World → Prop} {J : Nat → World → Prop} {R : World → World → Prop} {a0 : Act}
theorem ty_any (hB : tyOK md l.toArray = true) (hJm : ∀ k w, J k w → J (k + 1) w) (hR : ∀ i v w w', R w w' → T i v w → T i v w')
    (hob : Obl P md l.toArray T J R (fun v => putL l v 0 a0) l 0) (hend : ∀ v w', J l.length w' → (∀ j, j < l.length → T j (v j) w') → Q .normal (putL l v 0 a0) w') :
    ∀ (fuel k : Nat) (listed : Array Bool) (v : Nat → Value) (w : World), listed.size = l.length → k + fuel = l.length → listed.toList.count false = fuel → J k w →
      (∀ j, listed[j]? = some true → T j (v j) w) → wpAny P md l.toArray Q fuel listed (putS l v (fun j => listed.getD j false) 0 a0) w := by
  obtain ⟨hns, hok⟩ := tyOK_spec hB
  have hjup : ∀ n k w, J k w → J (k + n) w := fun n => by
    induction n with
    | zero => exact fun k w h => h
    | succ n ih => exact fun k w h => hJm _ _ (ih k w h)
  have hfin : ∀ (k : Nat) (listed : Array Bool) (v : Nat → Value) (w : World), listed.size = l.length → k ≤ l.length → J k w → (∀ j, listed[j]? = some true → T j (v j) w) →
      (∀ j, j < l.length → listed[j]? = some true) → Q .normal (putS l v (fun j => listed.getD j false) 0 a0) w := fun k listed v w hz hk hJ hT hall => by
    rw [putS_all l v _ 0 a0 (fun j hj => by rw [Nat.zero_add, Array.getD_eq_getD_getElem?, hall j hj]; rfl)]
    refine hend v w (by have := hjup (l.length - k) k w hJ; rwa [show k + (l.length - k) = l.length by omega] at this) (fun j hj => hT j (hall j hj))
  have hready : ∀ listed : Array Bool, listed.size = l.length → Region.ready md l.toArray listed = [] → ∀ j, j < l.length → listed[j]? = some true := fun listed hz hr j => by
    induction j using Nat.strongRecOn with
    | _ j ih =>
      intro hj
      have hb : listed[j]? = some (listed[j]'(by omega)) := Array.getElem?_eq_getElem (by omega)
      cases hv : listed[j]'(by omega) with
      | true => rw [hb, hv]
      | false =>
        have ho : l.toArray[j]? = some (l[j]'hj) := by simp [hj]
        have : j ∈ Region.ready md l.toArray listed := mem_ready.2 ⟨by rw [Array.getD_eq_getD_getElem?, hb, hv]; rfl, _, ho, fun e he hbn => by
          have hlt := (hok j _ ho).1 e he hbn
          rw [Array.getD_eq_getD_getElem?, ih e.on hlt (by omega)]; rfl⟩
        rw [hr] at this
        cases this
  intro fuel
  induction fuel with
  | zero =>
    intro k listed v w hz hk hc hJ hT
    have hall : ∀ j, j < l.length → listed[j]? = some true := fun j hj => by
      have hb : listed[j]? = some (listed[j]'(by omega)) := Array.getElem?_eq_getElem (by omega)
      rw [hb]
      cases hv : listed[j]'(by omega) with
      | true => rfl
      | false =>
        have hm : false ∈ listed.toList := by
          rw [← hv]; simp
        have := List.count_pos_iff.2 hm
        omega
    refine ⟨?_, hfin k listed v w hz (by omega) hJ hT hall⟩
    cases hr : Region.ready md l.toArray listed with
    | nil => rfl
    | cons j js =>
      have hjm : j ∈ Region.ready md l.toArray listed := by rw [hr]; simp
      obtain ⟨h1, o, h2, _⟩ := mem_ready.1 hjm
      have hjl : j < l.length := by simpa using (Array.getElem?_eq_some_iff.1 h2).1
      rw [Array.getD_eq_getD_getElem?, hall j hjl] at h1
      cases h1
  | succ fuel ih =>
    intro k listed v w hz hk hc hJ hT
    refine ⟨fun hr => hfin k listed v w hz (by omega) hJ hT (hready listed hz hr), fun i hi => ?_⟩
    obtain ⟨hun, o, ho, hed⟩ := mem_ready.1 hi
    have hol : l[i]? = some o := by simpa using ho
    have hil : i < l.length := (List.getElem?_eq_some_iff.1 hol).1
    have hli : listed[i]? = some false := by
      have hb : listed[i]? = some (listed[i]'(by omega)) := Array.getElem?_eq_getElem (by omega)
      rw [Array.getD_eq_getD_getElem?, hb] at hun
      rw [hb]; simpa using hun
    obtain ⟨hk1, hk2, hk3⟩ := hok i o ho
    have hob' := hob.at_ i o hol
    rw [Nat.zero_add] at hob'
    have h1 := hob'.out v k w (by simp; omega) hJ (fun j hdep => by
      obtain ⟨q, hq, hb⟩ := Array.any_eq_true.1 hdep
      rw [Bool.and_eq_true] at hb
      obtain ⟨hb, hj⟩ := hb
      have hj : (o.after[q]).on = j := by simpa using hj
      subst hj
      have h2 := hed _ (Array.getElem_mem hq) hb
      have hel : (o.after[q]).on < listed.size := by
        rcases Nat.lt_or_ge (o.after[q]).on listed.size with h | h
        · exact h
        · rw [Array.getD_eq_getD_getElem?, Array.getElem?_eq_none h] at h2; cases h2
      refine hT _ ?_
      rw [Array.getD_eq_getD_getElem?, Array.getElem?_eq_getElem hel] at h2
      rw [Array.getElem?_eq_getElem hel]
      simpa using h2)
    have htm : ∀ t ∈ o.looksAt l.toArray, (putS l v (fun j => listed.getD j false) 0 a0).tmps[t]? = (putL l v 0 a0).tmps[t]? := fun t ht =>
      putS_tmps t l v _ 0 a0 a0 (fun j p hj hp => by
        obtain ⟨e, he, hb, hj'⟩ := hk2 t ht j p (by simpa using hj) hp
        have := hed e he hb
        rw [hj'] at this
        simpa using this) rfl rfl
    have hsel := Region.noSelect_spec hns
    have hex : execOp (putS l v (fun j => listed.getD j false) 0 a0).eval o = execOp (putL l v 0 a0).eval o :=
      execOp_congr o (fun cs b => hsel i o cs b ho) (fun x hx => by
        cases x with
        | tmp t =>
          have := htm t (List.mem_append_left _ (List.mem_filterMap.2 ⟨.tmp t, by simpa using hx, rfl⟩))
          show Array.getD _ _ _ = Array.getD _ _ _
          rw [Array.getD_eq_getD_getElem?, Array.getD_eq_getD_getElem?, this]
        | _ => rfl)
    have hwt : Region.wanted o (yielded l.toArray (putS l v (fun j => listed.getD j false) 0 a0).tmps) = Region.wanted o (yielded l.toArray (putL l v 0 a0).tmps) := by
      unfold Region.wanted
      cases hg : o.guard with
      | none => rfl
      | some gw =>
        obtain ⟨g, want⟩ := gw
        have hy : yielded l.toArray (putS l v (fun j => listed.getD j false) 0 a0).tmps g = yielded l.toArray (putL l v 0 a0).tmps g := by
          unfold yielded
          cases ht : (l.toArray[g]?).bind (·.dst) with
          | none => rfl
          | some t =>
            have := htm t (List.mem_append_right _ (by simp only [hg, ht]; simp))
            simp only [Option.bind_some, this]
        simp only [hy]
    have hsz : (putL l v 0 a0).tmps.size = (putS l v (fun j => listed.getD j false) 0 a0).tmps.size := by
      rw [putL_eq, (putS_size _ _ _ _ _).1, (putS_size _ _ _ _ _).1]
    -- the next state
    have hnext : ∀ u w', T i u w' → J (k + 1) w' → R w w' → wpAny P md l.toArray Q fuel (listed.setIfInBounds i true) ((putS l v (fun j => listed.getD j false) 0 a0).put o.dst u) w' := fun u w' hTu hJ' hRw => by
      have hone := putS_one l v (fun j => listed.getD j false) 0 i a0 o u hol (by rw [Nat.zero_add, Array.getD_eq_getD_getElem?, hli]; rfl) (fun j p hj hne t ht => hk3 j p (by simpa using hj) hne t ht)
      rw [Nat.zero_add] at hone
      have hd : ∀ j, updB (fun j => listed.getD j false) i j = (listed.setIfInBounds i true).getD j false := fun j => by
        simp only [updB]
        by_cases hji : j = i
        · subst hji; rw [if_pos rfl, Array.getD_eq_getD_getElem?, Array.getElem?_setIfInBounds_self_of_lt (by omega)]; rfl
        · rw [if_neg hji, getD_set_ne false (Ne.symm hji)]
      rw [hone, putS_congr l _ (updV v i u) _ (fun j => (listed.setIfInBounds i true).getD j false) 0 a0 (fun j _ => ⟨rfl, hd j⟩)]
      refine ih (k + 1) _ _ w' (by simpa using hz) (by omega) ?_ hJ' (fun j hj => ?_)
      · have hcs : (listed.toList.set i true).count false = listed.toList.count false - 1 := by
          rw [List.count_set (by simpa using (by omega : i < listed.size))]
          have : listed.toList[i]'(by simpa using (by omega : i < listed.size)) = false := by
            have := (Array.getElem?_eq_some_iff.1 hli).2
            simpa using this
          simp [this]
        rw [Array.toList_setIfInBounds, hcs]; omega
      · by_cases hji : j = i
        · subst hji; simpa [updV] using hTu
        · rw [Array.getElem?_setIfInBounds_ne (Ne.symm hji)] at hj
          rw [updV, if_neg hji]
          exact hR _ _ _ _ hRw (hT j hj)
    refine wpOp_step ho (fun K' hK' => ?_)
    rw [hwt]
    by_cases hw : Region.wanted o (yielded l.toArray (putL l v 0 a0).tmps) = true
    · rw [if_pos hw]
      have h2 := h1 (fun a' w' => ∃ u, a' = (putL l v 0 a0).put o.dst u ∧ K' ((putS l v (fun j => listed.getD j false) 0 a0).put o.dst u) w')
        (fun u w' hTu hJ' hRw => ⟨u, rfl, hK' _ _ (hnext u w' hTu hJ' hRw)⟩)
      rw [if_pos hw] at h2
      exact wp_shift hsz hex h2
    · rw [if_neg hw]
      have h2 := h1 (fun a' w' => ∃ u, a' = (putL l v 0 a0).put o.dst u ∧ K' ((putS l v (fun j => listed.getD j false) 0 a0).put o.dst u) w')
        (fun u w' hTu hJ' hRw => ⟨u, rfl, hK' _ _ (hnext u w' hTu hJ' hRw)⟩)
      rw [if_neg hw] at h2
      obtain ⟨u, hu, hk'⟩ := h2
      rw [put_inj hsz hu]
      exact hk'

/-- THE LAW: whatever order the tape picks. -/
theorem wp_region_ty {id : Nat} {w : World} (T : Nat → Value → World → Prop) (J : Nat → World → Prop) (R : World → World → Prop) (hm : P.follows .mixedOrders = true) (hB : tyOK .any l.toArray = true)
    (hJm : ∀ k w, J k w → J (k + 1) w) (hR : ∀ i v w w', R w w' → T i v w → T i v w') (hJ : J 0 w.drew)
    (hob : Obl P .any l.toArray T J R (fun v => putL l v 0 a0) l 0)
    (hend : ∀ v w', J l.length w' → AllT T v w' l.length → Q .normal (putL l v 0 a0) w') : (Code.region id l.toArray true).wp P Q a0 w := by
  refine wp_region_any hm ?_
  have h := ty_any (P := P) (Q := Q) hB hJm hR hob (fun v w' hJ' hT => hend v w' hJ' hT) l.length 0 (Array.replicate l.length false) (fun _ => undef) w.drew (by simp) (by simp) (by simp [List.count_replicate_self]) hJ (fun j hj => by
    rw [Array.getElem?_replicate] at hj
    split at hj <;> simp at hj)
  rw [putS_none l _ _ 0 a0 (fun j hj => by rw [Array.getD_eq_getD_getElem?, Array.getElem?_replicate]; split <;> rfl)] at h
  simpa using h
end main

section ob
variable {md : Region.Mode} {ops : Array Oper} {T : Nat → Value → World → Prop} {J : Nat → World → Prop} {R : World → World → Prop} {A : (Nat → Value) → Act} {i : Nat} {o : Oper}
/-- An operation that yields a value at once. -/
theorem ob_run (hg : o.guard = none) (h : ∀ v k w, k < ops.size → J k w → DepsOf md T v w o → ∃ u w', (execOp (A v).eval o).run P w = .ok (.value u) w' ∧ T i u w' ∧ J (k + 1) w' ∧ R w w') : OblOne P md ops T J R A i o := by
  refine ⟨fun v k w hk hJ hd K hK => ?_⟩
  obtain ⟨u, w', hr, h1, h2, h3⟩ := h v k w hk hJ hd
  rw [if_pos (by simp [Region.wanted, hg])]
  unfold Oper.wp
  rw [hr]
  exact hK u w' h1 h2 h3
/-- A call. -/
theorem ob_call (hg : o.guard = none) (h : ∀ v k w, k < ops.size → J k w → DepsOf md T v w o → ∃ f args, (execOp (A v).eval o).run P w = .ok (.enter f args) w ∧ Calls P f args w (fun e w' => ∃ u, e = .returned u ∧ T i u w' ∧ J (k + 1) w' ∧ R w w')) : OblOne P md ops T J R A i o := by
  refine ⟨fun v k w hk hJ hd K hK => ?_⟩
  obtain ⟨f, args, hr, hc⟩ := h v k w hk hJ hd
  rw [if_pos (by simp [Region.wanted, hg])]
  unfold Oper.wp
  rw [hr]
  refine Calls.mono hc ?_
  rintro e w' ⟨u, rfl, h1, h2, h3⟩
  exact hK u w' h1 h2 h3
end ob
end
end Go.Proofs.Ytfflnkkhemaanaa
