/- The walk of the reference's Number; the kinds' words. -/
import Derived.Test.YtojbkdcncflbkaaDoorW2
namespace Go.Proofs.YtojbkdcncflbkaaDoor
open Go.RowKit

def isDig (c : UInt8) : Bool := decide (48 ≤ c.toNat) && decide (c.toNat ≤ 57)
def dval (l : List UInt8) : Int := l.foldl (fun n c => 10 * n + (c.toNat : Int) - 48) 0
theorem dval_succ (s : ByteArray) (k : Nat) (h : k < s.size) : dval (s.data.toList.take (k + 1)) = 10 * dval (s.data.toList.take k) + (s[k].toNat : Int) - 48 := by
  unfold dval
  rw [List.take_succ_eq_append_getElem (by simpa using h), List.foldl_append, getl s k h]; rfl
def numberI (l : List UInt8) : Int :=
  if (decide (1 ≤ l.length) && decide (l.length ≤ 10)) && (l.all isDig && (decide (dval l ≤ 1000000000) && decide (Lib.decDigits (dval l).toNat = l))) then dval l else -1

theorem number_len (l : List UInt8) (h : l.length < 1 ∨ 10 < l.length) : numberI l = -1 := by
  unfold numberI
  rw [if_neg]
  simp; omega
theorem number_bad (s : ByteArray) (k : Nat) (h : k < s.size) (hb : isDig s[k] = false) : numberI s.data.toList = -1 := by
  unfold numberI
  rw [if_neg]
  have : s.data.toList.all isDig = false := by
    rw [List.all_eq_false]
    exact ⟨s[k], by rw [← getl s k h]; exact List.getElem_mem _, by simp [hb]⟩
  simp [this]
theorem number_end (s : ByteArray) (h1 : 1 ≤ s.size) (h2 : s.size ≤ 10) (hd : s.data.toList.all isDig = true) (b : Bool)
    (hb : b = (decide (1000000000 < dval s.data.toList) || decide (Lib.decDigits (dval s.data.toList).toNat ≠ s.data.toList))) : numberI s.data.toList = if b then -1 else dval s.data.toList := by
  subst hb
  unfold numberI
  rw [hd]
  by_cases ha : dval s.data.toList ≤ 1000000000
  · by_cases hc : Lib.decDigits (dval s.data.toList).toNat = s.data.toList
    · simp [ha, hc, h1, h2, Int.not_lt.2 ha]
    · simp [ha, hc]
  · simp [ha, Int.not_le.1 ha]

theorem number_any (s : ByteArray) (w : World) (hs : s.size ≤ maxLen) : Calls Tryd.prog 23 #[.string s] w fun e w' => e = .returned (.int .i64 (numberI s.data.toList)) ∧ ∃ n, w' = w.drewN n := by
  unfold maxLen at hs
  by_cases hl : s.size < 1 ∨ 10 < s.size
  · have H := hide (number_len s.data.toList (by simpa using hl))
    rcases hl with hl | hl
    · have hl' : (s.size : Int) < 1 := by omega
      go_enter Tryd.func23, Tryd.ntmps23
      go_wp2
      go_ret
      exact ⟨ret_i H.out.symm, 0, rfl⟩
    · have hl' : (10 : Int) < (s.size : Int) := by omega
      have hl2 : ¬ (s.size : Int) < 1 := by omega
      go_enter Tryd.func23, Tryd.ntmps23
      go_wp2
      go_ret
      exact ⟨ret_i H.out.symm, 0, rfl⟩
  · have hl1 : 1 ≤ (s.size : Int) := by omega
    have hl2 : (s.size : Int) ≤ 10 := by omega
    go_enter Tryd.func23, Tryd.ntmps23
    go_wp2
    go_loop [3, 4] (fun n i => ∃ k : Nat, k ≤ s.size ∧ i = .int .i64 k ∧ Hid ((s.data.toList.take k).all isDig = true) ∧ Hid (0 ≤ dval (s.data.toList.take k) ∧ dval (s.data.toList.take k) < 10 ^ k) ∧ n = .int .i64 (dval (s.data.toList.take k))) (fun _ i => s.size - (intOf i).toNat)
    case atStart => exact ⟨0, Nat.zero_le _, rfl, rfl, by simp [Hid, dval], rfl⟩
    case round =>
      obtain ⟨k, hk, rfl, hall, hbd, rfl⟩ := hrel
      have hb1 := hbd.out.1
      have hb2 : dval (s.data.toList.take k) < 10000000000 := by
        have := hbd.out.2
        have h2 : (10 : Int) ^ k ≤ 10 ^ 10 := by exact_mod_cast Nat.pow_le_pow_right (by omega) (by omega)
        omega
      go_wp2_with (go_at_call 18; refine (dec_calls _ _ (by assumption) (by omega)).mono ?_; rintro e w' ⟨rfl, kd, rfl⟩)
      · have hlt : k < s.size := by assumption
        go_ret
        exact ⟨ret_i (number_bad s k hlt (by simp [isDig]; omega)).symm, 0, rfl⟩
      · have hlt : k < s.size := by assumption
        go_ret
        exact ⟨ret_i (number_bad s k hlt (by simp [isDig]; omega)).symm, 0, rfl⟩
      · have hlt : k < s.size := by assumption
        have hs' := hide (dval_succ s k hlt)
        have hp : (10 : Int) ^ (k + 1) = 10 * 10 ^ k := by rw [Int.pow_succ]; omega
        have Hp := hide hp
        clear hp
        go_round
        case rel =>
          refine ⟨k + 1, by omega, by go_num, ?_, ?_, by rw [hs'.out]⟩
          · rw [Hid, all_take_succ s _ k hlt, hall.out]; simp [isDig]; omega
          · rw [Hid, hs'.out, Hp.out]
            have := hbd.out.2
            omega
        case measure => simp [intOf]; omega
      · go_ret
        have ht : s.data.toList.take k = s.data.toList := List.take_of_length_le (by simp; omega)
        have h := number_end s (by omega) (by omega) (by rw [← hall.out, ht]) true (by
          rw [← ht]; symm; rw [Bool.or_eq_true]; left; simpa using ‹1000000000 < dval _›)
        exact ⟨ret_i h.symm, 0, rfl⟩
      · go_ret
        have ht : s.data.toList.take k = s.data.toList := List.take_of_length_le (by simp; omega)
        have hn : (!Lib.decDigits (dval (List.take k s.data.toList)).toNat == s.toList) = true := by assumption
        have h := number_end s (by omega) (by omega) (by rw [← hall.out, ht]) true (by
          symm; rw [Bool.or_eq_true]; right; rw [ht, Lib.toList_data] at hn; simpa using hn)
        exact ⟨ret_i h.symm, _, rfl⟩
      · go_ret
        have ht : s.data.toList.take k = s.data.toList := List.take_of_length_le (by simp; omega)
        have hn : (!Lib.decDigits (dval (List.take k s.data.toList)).toNat == s.toList) = false := by assumption
        have hle : dval (List.take k s.data.toList) ≤ 1000000000 := by assumption
        have h := number_end s (by omega) (by omega) (by rw [← hall.out, ht]) false (by
          symm; rw [Bool.or_eq_false_iff]; rw [ht] at hle hn; rw [Lib.toList_data] at hn
          exact ⟨by simpa using hle, by simpa using hn⟩)
        rw [ht]
        exact ⟨ret_i h.symm, _, rfl⟩

end Go.Proofs.YtojbkdcncflbkaaDoor
