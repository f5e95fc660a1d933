/- lex and the reference's layer 12: names and terminals. -/
import Derived.Test.YthpjjlmgdalpaaaB1
namespace Go.Proofs.Ythpjjlmgdalpaaa
open Go.RowKit

def letB (c : UInt8) : Bool := (decide (97 ≤ c.toNat) && decide (c.toNat ≤ 122)) || (decide (65 ≤ c.toNat) && decide (c.toNat ≤ 90))
def moreB (c : UInt8) : Bool := letB c || ((decide (48 ≤ c.toNat) && decide (c.toNat ≤ 57)) || decide (c.toNat = 95))
def spellB (c : UInt8) : Bool := (decide (32 ≤ c.toNat) && decide (c.toNat ≤ 126)) && (!decide (c.toNat = 39) && !decide (c.toNat = 92))

theorem letter_any (c : UInt8) (w : World) : Calls Try.prog 122 #[.int .u8 (c.toNat : Int)] w fun e w' => e = .returned (.bool (letB c)) ∧ w = w' := by
  go_enter Try.func122, Try.ntmps122
  go_wp2
  all_goals
    go_ret
    refine ⟨ret_b ?_, rfl⟩
    rw [Bool.eq_iff_iff]
    simp [letB, *] <;> omega
theorem letter12_any (c : UInt8) (w : World) : Calls Try.prog 90 #[.int .u8 (c.toNat : Int)] w fun e w' => e = .returned (.bool (letB c)) ∧ w = w' := by
  go_enter Try.func90, Try.ntmps90
  go_wp2
  all_goals
    go_ret
    refine ⟨ret_b ?_, rfl⟩
    rw [Bool.eq_iff_iff]
    simp [letB, *] <;> omega
theorem goes_any (c : UInt8) (w : World) : Calls Try.prog 124 #[.int .u8 (c.toNat : Int)] w fun e w' => e = .returned (.bool (moreB c)) ∧ w = w' := by
  go_enter Try.func124, Try.ntmps124
  go_wp2_with (go_at_call 122; refine (letter_any _ _).mono ?_; rintro e w' ⟨rfl, rfl⟩)
  go_ways
  all_goals
    go_ret
    refine ⟨ret_b ?_, rfl⟩
    rw [Bool.eq_iff_iff]
    simp [moreB, *] <;> omega
theorem more12_any (c : UInt8) (w : World) : Calls Try.prog 91 #[.int .u8 (c.toNat : Int)] w fun e w' => e = .returned (.bool (moreB c)) ∧ w = w' := by
  go_enter Try.func91, Try.ntmps91
  go_wp2_with (go_at_call 90; refine (letter12_any _ _).mono ?_; rintro e w' ⟨rfl, rfl⟩)
  all_goals
    go_ret
    refine ⟨ret_b ?_, rfl⟩
    rw [Bool.eq_iff_iff]
    simp [moreB, *] <;> omega
theorem spells_any (c : UInt8) (w : World) : Calls Try.prog 125 #[.int .u8 (c.toNat : Int)] w fun e w' => e = .returned (.bool (spellB c)) ∧ w = w' := by
  go_enter Try.func125, Try.ntmps125
  go_wp2
  go_ways
  all_goals
    go_ret
    refine ⟨ret_b ?_, rfl⟩
    rw [Bool.eq_iff_iff]
    simp [spellB, *] <;> omega
end Go.Proofs.Ythpjjlmgdalpaaa
