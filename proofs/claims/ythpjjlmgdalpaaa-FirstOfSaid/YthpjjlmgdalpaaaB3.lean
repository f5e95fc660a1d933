/- Runs of bytes; names and terminals, both sides. -/
import Derived.Test.YthpjjlmgdalpaaaB2
import Derived.Shelf.GgClosure.Gives
namespace Go.Proofs.Ythpjjlmgdalpaaa
open Go.RowKit

def runN (p : UInt8 → Bool) (l : List UInt8) : Nat := (l.takeWhile p).length
theorem runN_stop (p : UInt8 → Bool) (l : List UInt8) : ∀ k (h : k < l.length), (l.take k).all p = true → p l[k] = false → runN p l = k := by
  induction l with
  | nil => intro k h; simp at h
  | cons c r ih =>
    intro k h ha hp
    cases k with
    | zero => simp at hp; simp [runN, hp]
    | succ k =>
      simp only [List.take_succ_cons, List.all_cons, Bool.and_eq_true] at ha
      have := ih k (by simpa using h) ha.2 (by simpa using hp)
      simp only [runN, List.takeWhile_cons, ha.1, if_true, List.length_cons]
      unfold runN at this
      omega
theorem runN_full (p : UInt8 → Bool) (l : List UInt8) : (decide (runN p l = l.length)) = l.all p := by
  induction l with
  | nil => rfl
  | cons c r ih =>
    cases hc : p c with
    | false => simp [runN, hc]
    | true =>
      simp only [List.all_cons, hc, Bool.true_and, ← ih]
      rw [decide_eq_decide]
      simp [runN, hc]
theorem runN_all (p : UInt8 → Bool) (l : List UInt8) (h : l.all p = true) : runN p l = l.length := of_decide_eq_true ((runN_full p l).trans h)
theorem getl (s : ByteArray) (k : Nat) (h : k < s.size) : s.data.toList[k]'(by simpa using h) = s[k] := rfl

theorem run_any (fn : Nat) (eg : ∀ args w, (callFunc fn args).run Try.prog w = .ok (.enter fn args) w) (p : UInt8 → Bool)
    (hp : ∀ (c : UInt8) (W : World), Calls Try.prog fn #[.int .u8 (c.toNat : Int)] W fun e w' => e = .returned (.bool (p c)) ∧ W = w') (s : ByteArray) (w : World) (hs : s.size ≤ maxLen) :
    Calls Try.prog 123 #[.string s, .func (.func fn) #[] #[]] w fun e w' => e = .returned (.int .i64 (runN p s.data.toList : Int)) ∧ w = w' := by
  unfold maxLen at hs
  have Hp := hide hp
  clear hp
  go_enter Try.func123, Try.ntmps123
  go_wp2
  go_loop [5] (fun i => ∃ k : Nat, k ≤ s.size ∧ i = .int .i64 k ∧ Hid ((s.data.toList.take k).all p = true)) (fun i => s.size - (intOf i).toNat)
  case atStart => exact ⟨0, Nat.zero_le _, rfl, rfl⟩
  case round =>
    obtain ⟨k, hk, rfl, hall⟩ := hrel
    by_cases hlt : k < s.size
    · cases hb : p s[k]
      · have H := hide (runN_stop p s.data.toList k (by simpa using hlt) hall.out (by rw [getl s k hlt]; exact hb))
        go_wp2_with (refine (Hp.out s[k] _).mono ?_; rintro e w' ⟨rfl, rfl⟩)
        go_ret
        exact ⟨ret_i (by rw [H.out]), rfl⟩
      · go_wp2_with (refine (Hp.out s[k] _).mono ?_; rintro e w' ⟨rfl, rfl⟩)
        go_round
        case rel => exact ⟨k + 1, by omega, by go_num, by rw [Hid, all_take_succ _ _ k (by simpa using hlt), hall.out, Bool.true_and]; exact hb⟩
        case measure => simp [intOf]; omega
    · go_wp2_with fail
      go_ret
      have := hall.out
      rw [List.take_of_length_le (by simp; omega)] at this
      exact ⟨ret_i (by rw [runN_all p _ this]; simp; omega), rfl⟩

def nameB (l : List UInt8) : Bool := (decide (1 ≤ l.length) && decide (l.length ≤ 32)) && ((match l with | c :: _ => letB c | [] => false) && l.all moreB)
def termB (l : List UInt8) : Bool := (decide (1 ≤ l.length) && decide (l.length ≤ 32)) && l.all spellB
def sizeB (s : ByteArray) : Bool := decide (1 ≤ s.data.toList.length) && decide (s.data.toList.length ≤ 32)
theorem len_ba (s : ByteArray) : s.data.toList.length = s.size := by simp

theorem sized_any (s : ByteArray) (w : World) (hs : s.size ≤ maxLen) : Calls Try.prog 121 #[.string s] w fun e w' => e = .returned (.bool (sizeB s)) ∧ w = w' := by
  unfold maxLen at hs
  have H := hide (len_ba s)
  go_enter Try.func121, Try.ntmps121
  go_wp2
  all_goals
    go_ret
    refine ⟨ret_b ?_, rfl⟩
    rw [Bool.eq_iff_iff, sizeB, H.out]
    simp [*] <;> omega

theorem isname_any (s : ByteArray) (w : World) (hs : s.size ≤ maxLen) : Calls Try.prog 94 #[.string s] w fun e w' => e = .returned (.bool (nameB s.data.toList)) ∧ w = w' := by
  have hs' := hs
  unfold maxLen at hs'
  have eg := enters_of Try.func124 (by kernel_rfl) rfl
  cases hz : sizeB s
  · have H := hide (show nameB s.data.toList = false by unfold nameB; rw [sizeB] at hz; rw [hz]; rfl)
    go_enter Try.func94, Try.ntmps94
    go_wp2_with (go_at_call 121; refine (sized_any _ _ hs).mono ?_; rintro e w' ⟨rfl, rfl⟩)
    go_ret
    exact ⟨ret_b H.out.symm, rfl⟩
  · have h1 : 1 ≤ s.size := by rw [sizeB, len_ba] at hz; simp at hz; exact hz.1
    have h0 : (0 : Int) < s.size := by omega
    have h0' : 0 < s.size := by omega
    have hc : ∃ r, s.data.toList = s[0] :: r := by
      rcases hl : s.data.toList with _ | ⟨a, r⟩
      · have := len_ba s; rw [hl] at this; simp at this; omega
      · have := getl s 0 h0'
        simp only [hl] at this
        exact ⟨r, by rw [← this]; rfl⟩
    have H : Hid (nameB s.data.toList = (letB s[0] && decide (runN moreB s.data.toList = s.size))) := by
      unfold Hid nameB
      rw [sizeB] at hz
      rw [hz, ← len_ba s, runN_full, Bool.true_and]
      obtain ⟨r, hr⟩ := hc
      rw [hr]
    clear hc
    cases hL : letB s[0]
    · go_enter Try.func94, Try.ntmps94
      go_wp2_with (first | (go_at_call 121; refine (sized_any _ _ hs).mono ?_; rintro e w' ⟨rfl, rfl⟩) | (go_at_call 122; refine (letter_any _ _).mono ?_; rintro e w' ⟨rfl, rfl⟩))
      go_ret
      exact ⟨ret_b (by rw [H.out, hL]; rfl), rfl⟩
    · go_enter Try.func94, Try.ntmps94
      go_wp2_with (first | (go_at_call 121; refine (sized_any _ _ hs).mono ?_; rintro e w' ⟨rfl, rfl⟩) | (go_at_call 122; refine (letter_any _ _).mono ?_; rintro e w' ⟨rfl, rfl⟩) | (go_at_call 123; refine (run_any 124 eg moreB goes_any s _ hs).mono ?_; rintro e w' ⟨rfl, rfl⟩))
      go_ret
      refine ⟨ret_b ?_, rfl⟩
      rw [H.out, hL, Bool.true_and, Bool.eq_iff_iff]
      simp
      omega

theorem isterm_any (s : ByteArray) (w : World) (hs : s.size ≤ maxLen) : Calls Try.prog 95 #[.string s] w fun e w' => e = .returned (.bool (termB s.data.toList)) ∧ w = w' := by
  have hs' := hs
  unfold maxLen at hs'
  have eg := enters_of Try.func125 (by kernel_rfl) rfl
  have H : Hid (termB s.data.toList = (sizeB s && decide (runN spellB s.data.toList = s.size))) := by
    rw [Hid, termB, ← len_ba s, runN_full]; rfl
  cases hz : sizeB s
  all_goals
    go_enter Try.func95, Try.ntmps95
    go_wp2_with (first | (go_at_call 121; refine (sized_any _ _ hs).mono ?_; rintro e w' ⟨rfl, rfl⟩) | (go_at_call 123; refine (run_any 125 eg spellB spells_any s _ hs).mono ?_; rintro e w' ⟨rfl, rfl⟩))
    go_ret
    refine ⟨ret_b ?_, rfl⟩
    rw [H.out, hz, Bool.eq_iff_iff]
    simp <;> omega
end Go.Proofs.Ythpjjlmgdalpaaa
