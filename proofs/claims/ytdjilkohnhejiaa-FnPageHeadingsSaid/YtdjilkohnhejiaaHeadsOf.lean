/- HeadingsOf: what it computes, and the two contracts. No condition. -/
import Derived.Test.YtdjilkohnhejiaaHeadsA
import Derived.OwnWalk
namespace Go.Proofs.Ytdjilkohnhejiaa
open Go.RowKit
set_option linter.unusedVariables false

structure H3 where
  b : Int
  f : Int
  l : Int
def hStep (from_ to_ : Int) (s : H3) (h : Heading) : H3 :=
  if h.pos < from_ then ⟨h.num, s.f, s.l⟩ else if h.pos < to_ then ⟨s.b, if s.f = 0 then h.num else s.f, h.num⟩ else s
def hFold (from_ to_ : Int) (rs : List Heading) : H3 := rs.foldl (hStep from_ to_) ⟨0, 0, 0⟩
def hEnd (s : H3) : H3 := if s.f = 0 then ⟨s.b, s.b, s.b⟩ else s
def hGuard (rs : List Heading) (a z : Int) : Bool := headsValid rs && inB a 0 30 && inB z a 30
def headsOf (rs : List Heading) (a z : Int) : H3 := if hGuard rs a z then hEnd (hFold a z rs) else ⟨0, 0, 0⟩
theorem hFold_snoc {a z : Int} {rs : List Heading} {k : Nat} {r : Heading} (h : rs[k]? = some r) : hFold a z (rs.take (k + 1)) = hStep a z (hFold a z (rs.take k)) r := by
  rw [hFold, take_snoc' h, List.foldl_append]; rfl
def H3.res (s : H3) : Array Value := #[.int .i64 s.b, .int .i64 s.f, .int .i64 s.l]

theorem c_headsValid_b {A : Option Addr} {n c : Nat} {rs : List Heading} {b : Bool} (h : headsValid rs = b) (w : World) (hR : HeadsAt w A n c rs) :
    Calls Try.prog 19 #[.slice A n c] w fun e w' => e = .returned (.bool b) ∧ Below w.heap.size w w' := by
  rw [← h]; exact c_headsValid A n c rs w hR
theorem c_headsValid_b' {A : Option Addr} {n c : Nat} {rs : List Heading} {b : Bool} (h : headsValid rs = b) (w : World) (hR : HeadsAt w A n c rs) :
    Calls Try.prog 17 #[.slice A n c] w fun e w' => e = .returned (.bool b) ∧ Below w.heap.size w w' := by
  rw [← h]; exact c_headsValid' A n c rs w hR

set_option maxHeartbeats 2000000 in
theorem c_headsOf (A : Option Addr) (n c : Nat) (rs : List Heading) (a z : Int) (w : World) (hR : HeadsAt w A n c rs) :
    Calls Try.prog 24 #[.slice A n c, .int .i64 a, .int .i64 z] w fun e w' => e = .returned (.tuple (headsOf rs a z).res) ∧ Below w.heap.size w w' := by
  have hbd := hR.bd
  have hlen := hR.len
  cases h1 : headsValid rs
  · have h2 := h1; have h3 := h1
    have H : Hid (headsOf rs a z = ⟨0, 0, 0⟩) := by show _ = _; simp [headsOf, hGuard, h1]
    go_enter Try.func24, Try.ntmps24
    go_wp2_with (first | (go_at_call 19; refine (c_headsValid_b h1 _ hR).mono ?_; rintro e w1 ⟨rfl, hb1⟩) | (go_at_call 51; with_reducible refine (c_in_b h2 _).mono ?_; rintro e w2 ⟨rfl, rfl⟩) | (go_at_call 51; with_reducible refine (c_in_b h3 _).mono ?_; rintro e w2 ⟨rfl, rfl⟩))
    go_ret3
    exact ⟨by rw [unhide H]; rfl, by first | exact hb1 | exact bdrewN hb1 _⟩
  · cases h2 : inB a 0 30
    · have h3 := h1
      have H : Hid (headsOf rs a z = ⟨0, 0, 0⟩) := by show _ = _; simp [headsOf, hGuard, h2]
      go_enter Try.func24, Try.ntmps24
      go_wp2_with (first | (go_at_call 19; refine (c_headsValid_b h1 _ hR).mono ?_; rintro e w1 ⟨rfl, hb1⟩) | (go_at_call 51; with_reducible refine (c_in_b h2 _).mono ?_; rintro e w2 ⟨rfl, rfl⟩) | (go_at_call 51; with_reducible refine (c_in_b h3 _).mono ?_; rintro e w2 ⟨rfl, rfl⟩))
      go_ret3
      exact ⟨by rw [unhide H]; rfl, by first | exact hb1 | exact bdrewN hb1 _⟩
    · cases h3 : inB z a 30
      · have H : Hid (headsOf rs a z = ⟨0, 0, 0⟩) := by show _ = _; simp [headsOf, hGuard, h3]
        go_enter Try.func24, Try.ntmps24
        go_wp2_with (first | (go_at_call 19; refine (c_headsValid_b h1 _ hR).mono ?_; rintro e w1 ⟨rfl, hb1⟩) | (go_at_call 51; with_reducible refine (c_in_b h2 _).mono ?_; rintro e w2 ⟨rfl, rfl⟩) | (go_at_call 51; with_reducible refine (c_in_b h3 _).mono ?_; rintro e w2 ⟨rfl, rfl⟩))
        go_ret3
        exact ⟨by rw [unhide H]; rfl, by first | exact hb1 | exact bdrewN hb1 _⟩
      · have hg : hGuard rs a z = true := by simp [hGuard, h1, h2, h3]
        have HE : Hid (headsOf rs a z = hEnd (hFold a z rs)) := by show _ = _; rw [headsOf, hg]; rfl
        clear hg
        go_enter Try.func24, Try.ntmps24
        go_wp2_with (first | (go_at_call 19; refine (c_headsValid_b h1 _ hR).mono ?_; rintro e w1 ⟨rfl, hb1⟩) | (go_at_call 51; with_reducible refine (c_in_b h2 _).mono ?_; rintro e w2 ⟨rfl, rfl⟩) | (go_at_call 51; with_reducible refine (c_in_b h3 _).mono ?_; rintro e w2 ⟨rfl, rfl⟩))
        go_loopw [9, 10, 11, 30] (fun b f l i wr => ∃ (k : Nat) (s : H3), k ≤ n ∧ i = .int .i64 k ∧ b = .int .i64 s.b ∧ f = .int .i64 s.f ∧ l = .int .i64 s.l ∧ Hid (s = hFold a z (rs.take k)) ∧ Below w.heap.size w wr) (fun _ _ _ i _ => n - (intOf i).toNat)
        case atStart => exact ⟨0, ⟨0, 0, 0⟩, Nat.zero_le _, rfl, rfl, rfl, rfl, rfl, by first | exact hb1 | exact bdrewN hb1 _⟩
        case round =>
          obtain ⟨k, ⟨sb, sf, sl⟩, hk, rfl, rfl, rfl, rfl, hs, hb⟩ := hrel
          by_cases hlt : k < n
          · obtain ⟨b, off, r, rfl, hbl, hr, p0, p1⟩ := (hR.next hb).at_ hlt
            have hst : hFold a z (rs.take (k + 1)) = hStep a z ⟨sb, sf, sl⟩ r := by rw [hFold_snoc hr, ← unhide hs]
            clear hr
            cases d1 : decide (r.pos < a)
            · have d1' := of_decide_eq_false d1
              cases d2 : decide (r.pos < z)
              · have d2' := of_decide_eq_false d2
                have H : Hid ((⟨sb, sf, sl⟩ : H3) = hFold a z (rs.take (k + 1))) := by show _ = _; rw [hst, hStep, if_neg d1', if_neg d2']
                clear hst d1' d2' hs
                go_wp2
                go_roundw
                case rel => exact ⟨k + 1, ⟨sb, sf, sl⟩, by omega, by go_num, rfl, rfl, rfl, H, bmk hb _⟩
                case measure => simp [intOf]; omega
              · have d2' := of_decide_eq_true d2
                by_cases hf : sf = 0
                · subst hf
                  have H : Hid ((⟨sb, r.num, r.num⟩ : H3) = hFold a z (rs.take (k + 1))) := by show _ = _; rw [hst, hStep, if_neg d1', if_pos d2', if_pos rfl]
                  clear hst d1' d2' hs
                  go_wp2
                  go_roundw
                  case rel => exact ⟨k + 1, ⟨sb, r.num, r.num⟩, by omega, by go_num, rfl, rfl, rfl, H, bmk hb _⟩
                  case measure => simp [intOf]; omega
                · have H : Hid ((⟨sb, sf, r.num⟩ : H3) = hFold a z (rs.take (k + 1))) := by show _ = _; rw [hst, hStep, if_neg d1', if_pos d2', if_neg hf]
                  clear hst d1' d2' hs
                  have hf' : decide (sf = 0) = false := by simpa using hf
                  go_wp2
                  go_roundw
                  case rel => exact ⟨k + 1, ⟨sb, sf, r.num⟩, by omega, by go_num, rfl, rfl, rfl, H, bmk hb _⟩
                  case measure => simp [intOf]; omega
            · have d1' := of_decide_eq_true d1
              have H : Hid ((⟨r.num, sf, sl⟩ : H3) = hFold a z (rs.take (k + 1))) := by show _ = _; rw [hst, hStep, if_pos d1']
              clear hst d1' hs
              go_wp2
              go_roundw
              case rel => exact ⟨k + 1, ⟨r.num, sf, sl⟩, by omega, by go_num, rfl, rfl, rfl, H, bmk hb _⟩
              case measure => simp [intOf]; omega
          · have hs2 : (⟨sb, sf, sl⟩ : H3) = hFold a z rs := by have := unhide hs; rwa [List.take_of_length_le (by omega)] at this
            by_cases hf : sf = 0
            · subst hf
              have H : Hid (headsOf rs a z = ⟨sb, sb, sb⟩) := by show _ = _; rw [unhide HE, ← hs2]; rfl
              clear hs2 hs
              go_wp2
              go_ret3
              exact ⟨by rw [unhide H]; rfl, hb⟩
            · have H : Hid (headsOf rs a z = ⟨sb, sf, sl⟩) := by show _ = _; rw [unhide HE, ← hs2, hEnd, if_neg hf]
              clear hs2 hs
              have hf' : decide (sf = 0) = false := by simpa using hf
              go_wp2
              go_ret3
              exact ⟨by rw [unhide H]; rfl, hb⟩

set_option maxHeartbeats 2000000 in
theorem c_headsOf' (A : Option Addr) (n c : Nat) (rs : List Heading) (a z : Int) (w : World) (hR : HeadsAt w A n c rs) :
    Calls Try.prog 23 #[.slice A n c, .int .i64 a, .int .i64 z] w fun e w' => e = .returned (.tuple (headsOf rs a z).res) ∧ Below w.heap.size w w' := by
  have hbd := hR.bd
  have hlen := hR.len
  cases h1 : headsValid rs
  · have h2 := h1; have h3 := h1
    have H : Hid (headsOf rs a z = ⟨0, 0, 0⟩) := by show _ = _; simp [headsOf, hGuard, h1]
    go_enter Try.func23, Try.ntmps23
    go_wp2_with (first | (go_at_call 17; refine (c_headsValid_b' h1 _ hR).mono ?_; rintro e w1 ⟨rfl, hb1⟩) | (go_at_call 49; with_reducible refine (c_l1In_b h2 _).mono ?_; rintro e w2 ⟨rfl, rfl⟩) | (go_at_call 49; with_reducible refine (c_l1In_b h3 _).mono ?_; rintro e w2 ⟨rfl, rfl⟩))
    go_ret3
    exact ⟨by rw [unhide H]; rfl, by first | exact hb1 | exact bdrewN hb1 _⟩
  · cases h2 : inB z 0 30
    · have h3 := h1
      have H : Hid (headsOf rs a z = ⟨0, 0, 0⟩) := by show _ = _; rw [headsOf, if_neg]; simp only [hGuard, Bool.and_eq_true, inB_iff]; rw [inB_not] at h2; omega
      go_enter Try.func23, Try.ntmps23
      go_wp2_with (first | (go_at_call 17; refine (c_headsValid_b' h1 _ hR).mono ?_; rintro e w1 ⟨rfl, hb1⟩) | (go_at_call 49; with_reducible refine (c_l1In_b h2 _).mono ?_; rintro e w2 ⟨rfl, rfl⟩) | (go_at_call 49; with_reducible refine (c_l1In_b h3 _).mono ?_; rintro e w2 ⟨rfl, rfl⟩))
      go_ret3
      exact ⟨by rw [unhide H]; rfl, by first | exact hb1 | exact bdrewN hb1 _⟩
    · cases h3 : inB a 0 z
      · have H : Hid (headsOf rs a z = ⟨0, 0, 0⟩) := by show _ = _; rw [headsOf, if_neg]; simp only [hGuard, Bool.and_eq_true, inB_iff]; rw [inB_not] at h3; omega
        go_enter Try.func23, Try.ntmps23
        go_wp2_with (first | (go_at_call 17; refine (c_headsValid_b' h1 _ hR).mono ?_; rintro e w1 ⟨rfl, hb1⟩) | (go_at_call 49; with_reducible refine (c_l1In_b h2 _).mono ?_; rintro e w2 ⟨rfl, rfl⟩) | (go_at_call 49; with_reducible refine (c_l1In_b h3 _).mono ?_; rintro e w2 ⟨rfl, rfl⟩))
        go_ret3
        exact ⟨by rw [unhide H]; rfl, by first | exact hb1 | exact bdrewN hb1 _⟩
      · have hg : hGuard rs a z = true := by simp only [hGuard, Bool.and_eq_true, inB_iff]; rw [inB_iff] at h2 h3; exact ⟨⟨h1, by omega⟩, by omega⟩
        have HE : Hid (headsOf rs a z = hEnd (hFold a z rs)) := by show _ = _; rw [headsOf, hg]; rfl
        clear hg
        go_enter Try.func23, Try.ntmps23
        go_wp2_with (first | (go_at_call 17; refine (c_headsValid_b' h1 _ hR).mono ?_; rintro e w1 ⟨rfl, hb1⟩) | (go_at_call 49; with_reducible refine (c_l1In_b h2 _).mono ?_; rintro e w2 ⟨rfl, rfl⟩) | (go_at_call 49; with_reducible refine (c_l1In_b h3 _).mono ?_; rintro e w2 ⟨rfl, rfl⟩))
        go_loopw [9, 10, 11, 12] (fun b f l i wr => ∃ (k : Nat) (s : H3), k ≤ n ∧ i = .int .i64 k ∧ b = .int .i64 s.b ∧ f = .int .i64 s.f ∧ l = .int .i64 s.l ∧ Hid (s = hFold a z (rs.take k)) ∧ Below w.heap.size w wr) (fun _ _ _ i _ => n - (intOf i).toNat)
        case atStart => exact ⟨0, ⟨0, 0, 0⟩, Nat.zero_le _, rfl, rfl, rfl, rfl, rfl, by first | exact hb1 | exact bdrewN hb1 _⟩
        case round =>
          obtain ⟨k, ⟨sb, sf, sl⟩, hk, rfl, rfl, rfl, rfl, hs, hb⟩ := hrel
          by_cases hlt : k < n
          · obtain ⟨b, off, r, rfl, hbl, hr, p0, p1⟩ := (hR.next hb).at_ hlt
            have hst : hFold a z (rs.take (k + 1)) = hStep a z ⟨sb, sf, sl⟩ r := by rw [hFold_snoc hr, ← unhide hs]
            clear hr
            cases d1 : decide (r.pos < a)
            · have d1' := of_decide_eq_false d1
              cases d2 : decide (r.pos < z)
              · have d2' := of_decide_eq_false d2
                have H : Hid ((⟨sb, sf, sl⟩ : H3) = hFold a z (rs.take (k + 1))) := by show _ = _; rw [hst, hStep, if_neg d1', if_neg d2']
                clear hst d1' d2' hs
                go_wp2
                go_roundw
                case rel => exact ⟨k + 1, ⟨sb, sf, sl⟩, by omega, by go_num, rfl, rfl, rfl, H, hb⟩
                case measure => simp [intOf]; omega
              · have d2' := of_decide_eq_true d2
                by_cases hf : sf = 0
                · subst hf
                  have H : Hid ((⟨sb, r.num, r.num⟩ : H3) = hFold a z (rs.take (k + 1))) := by show _ = _; rw [hst, hStep, if_neg d1', if_pos d2', if_pos rfl]
                  clear hst d1' d2' hs
                  go_wp2
                  go_roundw
                  case rel => exact ⟨k + 1, ⟨sb, r.num, r.num⟩, by omega, by go_num, rfl, rfl, rfl, H, hb⟩
                  case measure => simp [intOf]; omega
                · have H : Hid ((⟨sb, sf, r.num⟩ : H3) = hFold a z (rs.take (k + 1))) := by show _ = _; rw [hst, hStep, if_neg d1', if_pos d2', if_neg hf]
                  clear hst d1' d2' hs
                  have hf' : decide (sf = 0) = false := by simpa using hf
                  go_wp2
                  go_roundw
                  case rel => exact ⟨k + 1, ⟨sb, sf, r.num⟩, by omega, by go_num, rfl, rfl, rfl, H, hb⟩
                  case measure => simp [intOf]; omega
            · have d1' := of_decide_eq_true d1
              have H : Hid ((⟨r.num, sf, sl⟩ : H3) = hFold a z (rs.take (k + 1))) := by show _ = _; rw [hst, hStep, if_pos d1']
              clear hst d1' hs
              go_wp2
              go_roundw
              case rel => exact ⟨k + 1, ⟨r.num, sf, sl⟩, by omega, by go_num, rfl, rfl, rfl, H, hb⟩
              case measure => simp [intOf]; omega
          · have hs2 : (⟨sb, sf, sl⟩ : H3) = hFold a z rs := by have := unhide hs; rwa [List.take_of_length_le (by omega)] at this
            by_cases hf : sf = 0
            · subst hf
              have H : Hid (headsOf rs a z = ⟨sb, sb, sb⟩) := by show _ = _; rw [unhide HE, ← hs2]; rfl
              clear hs2 hs
              go_wp2
              go_ret3
              exact ⟨by rw [unhide H]; rfl, hb⟩
            · have H : Hid (headsOf rs a z = ⟨sb, sf, sl⟩) := by show _ = _; rw [unhide HE, ← hs2, hEnd, if_neg hf]
              clear hs2 hs
              have hf' : decide (sf = 0) = false := by simpa using hf
              go_wp2
              go_ret3
              exact ⟨by rw [unhide H]; rfl, hb⟩
theorem c_headsOfL (A : Option Addr) (n c : Nat) (rs : List Heading) (a z : Int) (w : World) (hR : HeadsAt w A n c rs) :
    Calls Try.prog 24 #[.slice A n c, .int .i64 a, .int .i64 z] w fun e w' => e = .returned (.tuple #[.int .i64 (headsOf rs a z).b, .int .i64 (headsOf rs a z).f, .int .i64 (headsOf rs a z).l]) ∧ Below w.heap.size w w' := c_headsOf A n c rs a z w hR
theorem c_headsOfL' (A : Option Addr) (n c : Nat) (rs : List Heading) (a z : Int) (w : World) (hR : HeadsAt w A n c rs) :
    Calls Try.prog 23 #[.slice A n c, .int .i64 a, .int .i64 z] w fun e w' => e = .returned (.tuple #[.int .i64 (headsOf rs a z).b, .int .i64 (headsOf rs a z).f, .int .i64 (headsOf rs a z).l]) ∧ Below w.heap.size w w' := c_headsOf' A n c rs a z w hR
end Go.Proofs.Ytdjilkohnhejiaa
