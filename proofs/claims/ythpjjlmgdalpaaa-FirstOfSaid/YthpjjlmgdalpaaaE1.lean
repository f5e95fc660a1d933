/- ref19.Has. -/
import Derived.Test.YthpjjlmgdalpaaaD5
namespace Go.Proofs.Ythpjjlmgdalpaaa
open Go.RowKit

theorem has19_any (v : Value) (l : List (List UInt8)) (x : List UInt8) (w : World) (hv : SV w w.heap.size v (wsv l)) :
    Calls Try.prog 29 #[v, .string ⟨x.toArray⟩] w fun e w' => e = .returned (.bool (decide (x ∈ l))) ∧ w = w' := by
  obtain ⟨A, c, rfl, hc1, hc2, hA, -⟩ := hv
  have hll : (wsv l).length = l.length := by simp
  rw [hll] at hc1 ⊢
  have HA := hide hA
  clear hA hll
  obtain ⟨X, hX⟩ : ∃ X : ByteArray, X = ⟨x.toArray⟩ := ⟨_, rfl⟩
  rw [← hX]
  have hXd : Hid (X.data.toList = x) := by rw [hX]; rfl
  clear hX
  go_enter Try.func29, Try.ntmps29
  go_wp2_with fail
  go_loop [5] (fun i => ∃ k : Nat, k ≤ l.length ∧ i = .int .i64 k ∧ Hid (x ∉ l.take k)) (fun i => l.length - (intOf i).toNat)
  case atStart => exact ⟨0, Nat.zero_le _, rfl, by simp [Hid]⟩
  case round =>
    obtain ⟨k, hk, rfl, hall⟩ := hrel
    by_cases hlt : k < l.length
    · obtain ⟨b, off, rfl, hb, hcs⟩ := HA.out.at_ (k := k) (by simpa using hlt)
      have c1 := hcs k _ (wsv_at l k hlt)
      clear hcs
      obtain ⟨Y, hY⟩ : ∃ Y : ByteArray, Y = ⟨l[k].toArray⟩ := ⟨_, rfl⟩
      rw [← hY] at c1
      have hYd : Hid (Y.data.toList = l[k]) := by rw [hY]; rfl
      clear hY
      by_cases he : Y = X
      · have hq := ba_beq _ _ he
        have hm : Hid (x ∈ l) := by
          have : l[k] = x := by rw [← hYd.out, ← hXd.out, he]
          rw [← this]; exact List.getElem_mem hlt
        clear he
        go_wp2_with fail
        go_ret
        exact ⟨ret_b (decide_eq_true hm.out).symm, rfl⟩
      · have hq := ba_bne _ _ he
        have hne : Hid (x ≠ l[k]) := by
          intro e
          apply he
          apply ba_ext
          rw [hYd.out, hXd.out, e]
        clear he
        go_wp2_with fail
        go_round
        case rel => exact ⟨k + 1, by omega, by go_num, by rw [Hid, mem_take_succ _ _ _ hlt]; exact fun h => h.elim hall.out hne.out⟩
        case measure => simp [intOf]; omega
    · go_wp2_with fail
      go_ret
      have := hall.out
      rw [List.take_of_length_le (by omega)] at this
      exact ⟨ret_b (decide_eq_false this).symm, rfl⟩
end Go.Proofs.Ythpjjlmgdalpaaa
