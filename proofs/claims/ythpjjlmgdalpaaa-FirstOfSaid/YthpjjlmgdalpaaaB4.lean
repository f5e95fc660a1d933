/- The reference's layer 12 names and terminals; Find, SameRight. -/
import Derived.Test.YthpjjlmgdalpaaaB3
namespace Go.Proofs.Ythpjjlmgdalpaaa
open Go.RowKit

theorem name12_any (s : ByteArray) (w : World) (hs : s.size ≤ maxLen) : Calls Try.prog 49 #[.string s] w fun e w' => e = .returned (.bool (nameB s.data.toList)) ∧ w = w' := by
  unfold maxLen at hs
  by_cases hz : 1 ≤ s.size ∧ s.size ≤ 32
  · obtain ⟨h1, h32⟩ := hz
    have h0 : (0 : Int) < s.size := by omega
    have h0' : 0 < s.size := by omega
    have hc : ∃ r, s.data.toList = s[0] :: r := by
      rcases hl : s.data.toList with _ | ⟨a, r⟩
      · have := len_ba s; rw [hl] at this; simp at this; omega
      · have := getl s 0 h0'
        simp only [hl] at this
        exact ⟨r, by rw [← this]; rfl⟩
    have H : Hid (nameB s.data.toList = (letB s[0] && s.data.toList.all moreB)) := by
      unfold Hid nameB
      rw [len_ba, decide_eq_true h1, decide_eq_true h32]
      obtain ⟨r, hr⟩ := hc
      rw [hr]; rfl
    clear hc
    cases hL : letB s[0]
    · go_enter Try.func49, Try.ntmps49
      go_wp2_with (go_at_call 90; refine (letter12_any _ _).mono ?_; rintro e w' ⟨rfl, rfl⟩)
      all_goals first | (exfalso; omega) | skip
      go_ret
      exact ⟨ret_b (by rw [H.out, hL]; rfl), rfl⟩
    · go_enter Try.func49, Try.ntmps49
      go_wp2_with (go_at_call 90; refine (letter12_any _ _).mono ?_; rintro e w' ⟨rfl, rfl⟩)
      all_goals first | (exfalso; omega) | skip
      go_loop [3] (fun i => ∃ k : Nat, k ≤ s.size ∧ i = .int .i64 k ∧ Hid ((s.data.toList.take k).all moreB = true)) (fun i => s.size - (intOf i).toNat)
      case atStart => exact ⟨0, Nat.zero_le _, rfl, rfl⟩
      case round =>
        obtain ⟨k, hk, rfl, hall⟩ := hrel
        by_cases hlt : k < s.size
        · cases hb : moreB s[k]
          · have HN := hide (all_no s.data.toList moreB k (by simpa using hlt) (by rw [getl s k hlt]; exact hb))
            go_wp2_with (go_at_call 91; refine (more12_any _ _).mono ?_; rintro e w' ⟨rfl, rfl⟩)
            go_ret
            exact ⟨ret_b (by rw [H.out, HN.out, hL]; rfl), rfl⟩
          · go_wp2_with (go_at_call 91; refine (more12_any _ _).mono ?_; rintro e w' ⟨rfl, rfl⟩)
            go_round
            case rel => exact ⟨k + 1, by omega, by go_num, by rw [Hid, all_take_succ _ _ k (by simpa using hlt), hall.out, Bool.true_and]; exact hb⟩
            case measure => simp [intOf]; omega
        · go_wp2_with fail
          go_ret
          have := hall.out
          rw [List.take_of_length_le (by simp; omega)] at this
          exact ⟨ret_b (by rw [H.out, hL, this]; rfl), rfl⟩
  · have H := hide (show nameB s.data.toList = false by unfold nameB; rw [len_ba]; simp; omega)
    by_cases hlow : s.size < 1
    all_goals
      go_enter Try.func49, Try.ntmps49
      go_wp2_with fail
      all_goals first | (exfalso; omega) | skip
      go_ret
      exact ⟨ret_b H.out.symm, rfl⟩

theorem term12_any (s : ByteArray) (w : World) (hs : s.size ≤ maxLen) : Calls Try.prog 51 #[.string s] w fun e w' => e = .returned (.bool (termB s.data.toList)) ∧ w = w' := by
  unfold maxLen at hs
  by_cases hz : 1 ≤ s.size ∧ s.size ≤ 32
  · obtain ⟨h1, h32⟩ := hz
    have H : Hid (termB s.data.toList = s.data.toList.all spellB) := by
      unfold Hid termB
      rw [len_ba, decide_eq_true h1, decide_eq_true h32]; rfl
    go_enter Try.func51, Try.ntmps51
    go_wp2
    all_goals first | (exfalso; omega) | skip
    go_loop [3] (fun i => ∃ k : Nat, k ≤ s.size ∧ i = .int .i64 k ∧ Hid ((s.data.toList.take k).all spellB = true)) (fun i => s.size - (intOf i).toNat)
    case atStart => exact ⟨0, Nat.zero_le _, rfl, rfl⟩
    case round =>
      obtain ⟨k, hk, rfl, hall⟩ := hrel
      by_cases hlt : k < s.size
      · have hl : Hid (k < s.data.toList.length) := by unfold Hid; simpa using hlt
        cases hb : spellB s[k]
        · have HN := hide (all_no s.data.toList spellB k hl.out (by rw [getl s k hlt]; exact hb))
          have hb' : Hid (¬ (32 ≤ s[k].toNat ∧ s[k].toNat ≤ 126 ∧ s[k].toNat ≠ 39 ∧ s[k].toNat ≠ 92)) := by
            unfold Hid; intro hh; revert hb; unfold spellB; simp; omega
          clear hb
          go_wp2
          all_goals (try simp only [beq_iff_eq, beq_eq_false_iff_ne, ne_eq] at *)
          all_goals first
            | (exfalso; have := hb'.out; omega)
            | (go_ret
               exact ⟨ret_b (by rw [H.out, HN.out]), rfl⟩)
        · have hb' : 32 ≤ s[k].toNat ∧ s[k].toNat ≤ 126 ∧ s[k].toNat ≠ 39 ∧ s[k].toNat ≠ 92 := by
            revert hb; unfold spellB; simp; omega
          have HB := hide hb
          clear hb
          obtain ⟨h1', h2', h3', h4'⟩ := hb'
          go_wp2
          all_goals (try simp only [beq_iff_eq, beq_eq_false_iff_ne, ne_eq] at *)
          all_goals first
            | (exfalso; omega)
            | (go_round
               case rel => exact ⟨k + 1, by omega, by go_num, by rw [Hid, all_take_succ _ _ k hl.out, hall.out, Bool.true_and, getl s k hlt]; exact HB.out⟩
               case measure => simp [intOf]; omega)
      · go_wp2_with fail
        go_ret
        have := hall.out
        rw [List.take_of_length_le (by simp; omega)] at this
        exact ⟨ret_b (by rw [H.out, this]), rfl⟩
  · have H := hide (show termB s.data.toList = false by unfold termB; rw [len_ba]; simp; omega)
    by_cases hlow : s.size < 1
    all_goals
      go_enter Try.func51, Try.ntmps51
      go_wp2_with fail
      all_goals first | (exfalso; omega) | skip
      go_ret
      exact ⟨ret_b H.out.symm, rfl⟩

/-- The first place of a text; -1: none. -/
def idx {α : Type} [DecidableEq α] (l : List α) (s : α) : Nat := l.findIdx (fun x => decide (x = s))
def findI (l : List ByteArray) (s : ByteArray) : Int := if idx l s < l.length then idx l s else -1
theorem idx_stop {α : Type} [DecidableEq α] (l : List α) (s : α) : ∀ k (h : k < l.length), s ∉ l.take k → l[k] = s → idx l s = k := by
  induction l with
  | nil => intro k h; simp at h
  | cons c r ih =>
    intro k h ha hp
    cases k with
    | zero => simp at hp; simp [idx, List.findIdx_cons, hp]
    | succ k =>
      simp only [List.take_succ_cons, List.mem_cons, not_or] at ha
      have := ih k (by simpa using h) ha.2 (by simpa using hp)
      unfold idx at this ⊢
      rw [List.findIdx_cons, this]
      have hne : decide (c = s) = false := by simpa using fun e => ha.1 e.symm
      rw [hne]; rfl
theorem idx_lt {α : Type} [DecidableEq α] (l : List α) (s : α) : idx l s < l.length ↔ s ∈ l := by
  unfold idx
  rw [List.findIdx_lt_length]
  simp
theorem mem_take_succ {α : Type} (l : List α) (s : α) (k : Nat) (h : k < l.length) : s ∈ l.take (k + 1) ↔ s ∈ l.take k ∨ s = l[k] := by
  rw [List.take_succ_eq_append_getElem h, List.mem_append, List.mem_singleton]
theorem ba_beq (x y : ByteArray) (h : x = y) : (x.toList == y.toList) = true := by rw [h]; simp
theorem ba_bne (x y : ByteArray) (h : ¬ x = y) : (x.toList == y.toList) = false := by
  rw [beq_eq_false_iff_ne]; intro e; apply h; apply ba_ext; rw [← ByteArray.toList_eq, ← ByteArray.toList_eq]; exact e

theorem find_any (A : Option Addr) (c : Nat) (l : List ByteArray) (s : ByteArray) (w : World) (hA : SlAt w w.heap.size A (strs l)) (hc : l.length ≤ c) (hm : c ≤ 9223372036854775807) :
    Calls Try.prog 50 #[.slice A l.length c, .string s] w fun e w' => e = .returned (.int .i64 (findI l s)) ∧ w = w' := by
  have HA := hide hA
  clear hA
  go_enter Try.func50, Try.ntmps50
  go_wp2
  go_loop [5] (fun i => ∃ k : Nat, k ≤ l.length ∧ i = .int .i64 k ∧ Hid (s ∉ l.take k)) (fun i => l.length - (intOf i).toNat)
  case atStart => exact ⟨0, Nat.zero_le _, rfl, by simp [Hid]⟩
  case round =>
    obtain ⟨k, hk, rfl, hall⟩ := hrel
    by_cases hlt : k < l.length
    · obtain ⟨b, off, rfl, hb, hcs⟩ := HA.out.at_ (k := k) (by simpa using hlt)
      have c1 := hcs k _ (strs_at l k hlt)
      clear hcs
      by_cases he : l[k] = s
      · have hq := ba_beq _ _ he
        have H := hide (idx_stop l s k hlt hall.out he)
        go_wp2
        go_ret
        exact ⟨ret_i (by unfold findI; rw [H.out, if_pos hlt]), rfl⟩
      · have hq := ba_bne _ _ he
        go_wp2
        go_round
        case rel => exact ⟨k + 1, by omega, by go_num, by rw [Hid, mem_take_succ _ _ k hlt]; exact fun h => h.elim hall.out fun e => he e.symm⟩
        case measure => simp [intOf]; omega
    · go_wp2
      go_ret
      have := hall.out
      rw [List.take_of_length_le (by omega)] at this
      exact ⟨ret_i (by unfold findI; rw [if_neg (by rw [idx_lt]; exact this)]), rfl⟩

theorem eq_of_take {α : Type} (a b : List α) (h : a.length = b.length) (ht : a.take a.length = b.take a.length) : a = b := by
  rw [List.take_length, h, List.take_length] at ht; exact ht
theorem sameright_any (A : Option Addr) (c : Nat) (l : List Int) (A2 : Option Addr) (c2 : Nat) (l2 : List Int) (w : World) (hA : SlAt w w.heap.size A (ints l)) (hc : l.length ≤ c) (hA2 : SlAt w w.heap.size A2 (ints l2)) (hc2 : l2.length ≤ c2)
    (hm : l.length ≤ 9223372036854775807) (hm2 : l2.length ≤ 9223372036854775807) :
    Calls Try.prog 92 #[.slice A l.length c, .slice A2 l2.length c2] w fun e w' => e = .returned (.bool (decide (l = l2))) ∧ ∃ m, w' = w.drewN m := by
  by_cases hl : l.length = l2.length
  · have HA := hide hA
    have HA2 := hide hA2
    clear hA hA2
    go_enter Try.func92, Try.ntmps92
    go_wp2
    go_loopw [5] (fun i W => (∃ m, W = w.drewN m) ∧ ∃ k : Nat, k ≤ l.length ∧ i = .int .i64 k ∧ Hid (l.take k = l2.take k)) (fun i _ => l.length - (intOf i).toNat)
    case atStart => exact ⟨⟨0, rfl⟩, 0, Nat.zero_le _, rfl, rfl⟩
    case round =>
      obtain ⟨⟨m, rfl⟩, k, hk, rfl, hall⟩ := hrel
      by_cases hlt : k < l.length
      · have hlt2 : k < l2.length := by omega
        obtain ⟨b, off, rfl, hb, hcs⟩ := HA.out.at_ (k := k) (by simpa using hlt)
        have c1 := hcs k _ (ints_at l k hlt)
        obtain ⟨b2, off2, rfl, hb2, hcs2⟩ := HA2.out.at_ (k := k) (by simpa using hlt2)
        have c2 := hcs2 k _ (ints_at l2 k hlt2)
        clear hcs hcs2
        by_cases he : l[k] = l2[k]
        · go_wp2_with (go_quiet (fail))
          go_roundw
          case rel => exact ⟨(by first | exact ⟨_, rfl⟩ | exact ⟨_, Go.World.drewN_drewN ..⟩ | exact ⟨0, rfl⟩), k + 1, by omega, by go_num, by rw [Hid, List.take_succ_eq_append_getElem hlt, List.take_succ_eq_append_getElem hlt2, hall.out, he]⟩
          case measure => simp [intOf]; omega
        · have hne : Hid (l ≠ l2) := by
            intro h; subst h; exact he rfl
          go_wp2_with (go_quiet (fail))
          go_ret
          exact ⟨ret_b (by rw [decide_eq_false hne.out]), (by first | exact ⟨_, rfl⟩ | exact ⟨_, Go.World.drewN_drewN ..⟩ | exact ⟨0, rfl⟩)⟩
      · go_wp2
        go_ret
        have he : l = l2 := eq_of_take l l2 hl (by have := hall.out; rw [show k = l.length by omega] at this; exact this)
        exact ⟨ret_b (by rw [decide_eq_true he]), ⟨m, rfl⟩⟩
  · have hne : Hid (l ≠ l2) := by intro h; subst h; exact hl rfl
    go_enter Try.func92, Try.ntmps92
    go_wp2
    go_ret
    exact ⟨ret_b (by rw [decide_eq_false hne.out]), ⟨0, rfl⟩⟩
end Go.Proofs.Ythpjjlmgdalpaaa
