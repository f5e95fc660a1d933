/- The walks of ask's small functions. -/
import Derived.Test.YtojbkdcncflbkaaDoorRows
import Derived.WalkKit
import Derived.BigQuiet
import Derived.Deep.QuietTactic
import Derived.BigGuardPart
import Derived.WalkLawsBesides
import Derived.Outline
import Derived.Lib.ItoaNum
namespace Go.Proofs.YtojbkdcncflbkaaDoor
open Go.RowKit


theorem ret_b {a b : Bool} (h : a = b) : Ending.returned (.bool a) = .returned (.bool b) := by rw [h]
theorem ret_i {k : IntKind} {a b : Int} (h : a = b) : Ending.returned (.int k a) = .returned (.int k b) := by rw [h]
theorem ret_s {a b : ByteArray} (h : a = b) : Ending.returned (.string a) = .returned (.string b) := by rw [h]
theorem ret_3b {a b c a' b' c' : Bool} (h1 : a = a') (h2 : b = b') (h3 : c = c') : Ending.returned (.tuple #[.bool a, .bool b, .bool c]) = .returned (.tuple #[.bool a', .bool b', .bool c']) := by rw [h1, h2, h3]

def mayB (n : Int) (has : Bool) : Bool := decide (0 ≤ n) && decide (n ≤ 1000000000) && (has || n == 0)

theorem may_any (n : Int) (b : Bool) (w : World) : Calls Tryd.prog 13 #[.int .i64 n, .bool b] w fun e w' => e = .returned (.bool (mayB n b)) ∧ w = w' := by
  go_enter Tryd.func13, Tryd.ntmps13
  go_wp2
  all_goals
    go_ret
    refine ⟨ret_b ?_, rfl⟩
    simp [mayB, *]
  all_goals omega

def hasK (k : Int) : Bool := (decide (1 ≤ k) && decide (k ≤ 6)) || (decide (12 ≤ k) && decide (k ≤ 14))
def hasN (k : Int) : Bool := decide (k = 7) || decide (k = 8)
def hasT (k : Int) : Bool := hasK k || decide (k = 18)

theorem parts_any (k : Int) (w : World) : Calls Tryd.prog 12 #[.int .i64 k] w fun e w' => e = .returned (.tuple #[.bool (hasK k), .bool (hasN k), .bool (hasT k)]) ∧ w = w' := by
  go_enter Tryd.func12, Tryd.ntmps12
  go_wp2
  all_goals
    go_ret3
    refine ⟨ret_3b ?_ ?_ ?_, rfl⟩
  all_goals simp_all [hasT, hasK, hasN]
  all_goals first | omega | (rw [Bool.eq_iff_iff]; simp; omega) | skip

def has (k : Int) : Int := if (1 ≤ k ∧ k ≤ 6) ∨ (12 ≤ k ∧ k ≤ 14) then 2 else if k = 7 ∨ k = 8 then 1 else if (9 ≤ k ∧ k ≤ 11) ∨ (15 ≤ k ∧ k ≤ 17) then 0 else if k = 18 then 3 else -1

theorem has_any (k : Int) (w : World) : Calls Tryd.prog 16 #[.int .i64 k] w fun e w' => e = .returned (.int .i64 (has k)) ∧ w = w' := by
  go_enter Tryd.func16, Tryd.ntmps16
  go_wp2
  all_goals
    go_ret
    refine ⟨ret_i ?_, rfl⟩
    try simp only [beq_iff_eq, beq_eq_false_iff_ne, ne_eq] at *
    unfold has
    (repeat' split) <;> omega
end Go.Proofs.YtojbkdcncflbkaaDoor
