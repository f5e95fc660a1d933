/- slices.Contains at bools, slices.Repeat at ints. -/
import Derived.Test.YthpjjlmgdalpaaaB16
import Derived.Test.YthpjjlmgdalpaaaShelf
import Derived.Laws.CopyOwn
namespace Go.Proofs.Ythpjjlmgdalpaaa
open Go.RowKit

theorem bools_at (l : List Bool) (k : Nat) (h : k < l.length) : (bools l)[k]? = some (.bool l[k]) := by
  rw [List.getElem?_map, List.getElem?_eq_getElem h]; rfl
theorem index_bool (A : Option Addr) (c : Nat) (l : List Bool) (w : World) (hA : SlAt w w.heap.size A (bools l)) (hc : l.length ≤ c) (hm : l.length ≤ 9223372036854775807) :
    Calls Try.prog 131 #[.slice A l.length c, .bool false] w fun e w' => (∃ n : Int, e = .returned (.int .i64 n) ∧ (0 ≤ n ↔ false ∈ l)) ∧ w = w' := by
  have HA := hide hA
  clear hA
  go_enter Try.func131, Try.ntmps131
  go_wp2_with fail
  go_loop [8] (fun i => ∃ k : Nat, k ≤ l.length ∧ i = .int .i64 k ∧ Hid (false ∉ l.take k)) (fun i => l.length - (intOf i).toNat)
  case atStart => exact ⟨0, Nat.zero_le _, rfl, by simp [Hid]⟩
  case round =>
    obtain ⟨k, hk, rfl, hall⟩ := hrel
    by_cases hlt : k < l.length
    · obtain ⟨b, off, rfl, hb, hcs⟩ := HA.out.at_ (k := k) (by simpa using hlt)
      have c1 := hcs k _ (bools_at l k hlt)
      clear hcs
      have Hmt := hide (mem_take_succ l false k hlt)
      have Hmem := hide (List.getElem_mem hlt)
      cases hz : l[k]
      · rw [hz] at c1 Hmem
        clear hz
        go_wp2_with fail
        all_goals first | (exfalso; omega) | skip
        go_ret
        exact ⟨⟨_, rfl, by have := Hmem.out; simp [this]⟩, rfl⟩
      · rw [hz] at c1 Hmt
        clear hz
        go_wp2_with fail
        all_goals first | (exfalso; omega) | skip
        go_round
        case rel => exact ⟨k + 1, by omega, by go_num, by rw [Hid, Hmt.out]; rintro (h | h); exact hall.out h; cases h⟩
        case measure => simp [intOf]; omega
    · go_wp2_with fail
      go_ret
      have := hall.out
      rw [List.take_of_length_le (by omega)] at this
      exact ⟨⟨-1, rfl, by simp [this]⟩, rfl⟩
theorem contains_false (A : Option Addr) (c : Nat) (l : List Bool) (w : World) (hA : SlAt w w.heap.size A (bools l)) (hc : l.length ≤ c) (hm : l.length ≤ 9223372036854775807) :
    Calls Try.prog 102 #[.slice A l.length c, .bool false] w fun e w' => e = .returned (.bool (decide (false ∈ l))) ∧ w = w' := by
  have HI := hide (index_bool A c l w hA hc hm)
  have Hdn : Hid (∀ n : Int, (0 ≤ n ↔ false ∈ l) → decide (0 ≤ n) = decide (false ∈ l)) := fun n h => by rw [decide_eq_decide]; exact h
  clear hA
  revert HI Hdn
  generalize decide (false ∈ l) = b
  intro HI Hdn
  go_enter Try.func102, Try.ntmps102
  go_wp2_with (go_at_call 131; refine HI.out.mono ?_; rintro e w' ⟨⟨n, rfl, hn⟩, rfl⟩; have Hn := hide (Hdn.out n hn); clear hn)
  all_goals
    go_ret
    exact ⟨ret_b Hn.out, rfl⟩

/-- The first n of N numbers are z. -/
def reps (z : Int) (n N : Nat) : List Int := List.replicate n z ++ List.replicate (N - n) 0
theorem reps_len (z : Int) (n N : Nat) (h : n ≤ N) : (reps z n N).length = N := by simp [reps]; omega
theorem reps_copy (z : Int) (n k N : Nat) (h : n + k ≤ N) : ((ints (reps z n N)).toArray.toList.take n ++ ints (List.replicate k z) ++ (ints (reps z n N)).toArray.toList.drop (n + k)).toArray = (ints (reps z (n + k) N)).toArray := by
  congr 1
  simp only [List.toList_toArray, reps, List.map_append, List.map_replicate]
  rw [List.take_append_of_le_length (by simp), List.take_of_length_le (by simp), List.drop_append, List.drop_of_length_le (by simp)]
  simp only [List.length_replicate, List.drop_replicate, List.replicate_append_replicate, List.nil_append]
  congr 2
  omega

set_option maxRecDepth 8000 in
theorem repeat_any (z : Int) (A : Option Addr) (c : Nat) (N : Nat) (w : World) (hA : SlAt w w.heap.size A (ints [z])) (h1 : 1 ≤ N) (hN : N ≤ 1000000) :
    Calls Try.prog 110 #[.slice A 1 c, .int .i64 N] w fun e w' => e = .returned (.slice (some ⟨w.heap.size, 0, none⟩) N N) ∧ Blk w' w.heap.size 3 (ints (List.replicate N z)).toArray ∧ Below w.heap.size w w' := by
  obtain ⟨b, off, rfl, hb, hcs⟩ := hA.at_ (k := 0) (by simp)
  have c1 := hcs 0 _ (ints_at [z] 0 (by simp))
  clear hcs hA
  obtain ⟨W1, hmk, hB0, hb1⟩ : ∃ W1, (Instr.makeSlice 26 (.int .i64 (N : Int)) (.int .i64 (N : Int))).run Try.prog w = .ok (.slice (some ⟨w.heap.size, 0, none⟩) N N) W1 ∧ Blk W1 w.heap.size 3 (ints (List.replicate N 0)).toArray ∧ Below w.heap.size w W1 :=
    ⟨_, make_ints w N hN, Blk.new _ _ _, (Below.refl _ _).alloc (Nat.le_refl _) _⟩
  have hsz1 : (Try.prog.info? 3).map (·.size) = some 1 := by
    obtain ⟨i0, hi, hz0, hz2, hz3⟩ := info_parts infoI
    rw [hi]; simp [hz2]
  have hm0 := Try.bits_Mul 1 N (by omega) (by omega) w
  rw [show 1 * N / 18446744073709551616 = 0 by omega, show 1 * N % 18446744073709551616 = N by omega] at hm0
  have Hm0 := hide hm0
  have ecp : ∀ (n k : Nat) (W : World) (ad : Addr) (sl sc : Nat), Blk W w.heap.size 3 (ints (reps z n N)).toArray → n + k ≤ N → k = Nat.min sl (N - n) → (∀ j v, (ints (List.replicate k z))[j]? = some v → W.cell? (ad.add j) = some v) →
      (Builtin.copy_ #[26, 26] 3 #[.slice (some ⟨w.heap.size, n, none⟩) (N - n) (N - n), .slice (some ad) sl sc]).run Try.prog W = .ok (.int .i64 k) (W.setRow w.heap.size (ints (reps z (n + k) N)).toArray) := by
    intro n k W ad sl sc hB hk hmin hsrc
    have := run_copy_row (P := Try.prog) W 26 26 3 3 w.heap.size n (N - n) (N - n) ad sl sc (ints (reps z n N)).toArray 3 (ints (List.replicate k z)) Try.underlying26 hsz1 hB (by simp [hmin]) hsrc (by simp [reps_len z n N (by omega)]; omega) (ints_oneCell _ _)
    have el : (ints (List.replicate k z)).length = k := by simp
    rw [el, reps_copy z n k N hk] at this
    exact this
  obtain ⟨W2, hcp0, hB2, hb2⟩ : ∃ W2, (Builtin.copy_ #[26, 26] 3 #[.slice (some ⟨w.heap.size, 0, none⟩) N N, .slice (some ⟨b, off, none⟩) 1 c]).run Try.prog W1 = .ok (.int .i64 1) W2 ∧ Blk W2 w.heap.size 3 (ints (reps z 1 N)).toArray ∧ Below w.heap.size w W2 := by
    have h := ecp 0 1 W1 ⟨b, off, none⟩ 1 c (by simpa [reps] using hB0) (by omega) (by show _ = min _ _; omega) (fun j v hv => by
      have hj : j = 0 := by
        rcases Nat.lt_or_ge j 1 with h | h
        · omega
        · rw [List.getElem?_eq_none (by simpa using h)] at hv; cases hv
      subst hj
      simp at hv
      subst hv
      exact (hb1.cell (by simpa [Addr.add] using hb)).trans (by simpa [Addr.add] using c1))
    rw [Nat.sub_zero] at h
    exact ⟨_, h, setRow_heap _ _ _ _ _ _ hB0, below_setRow hb1 (Nat.le_refl _) _⟩
  have Hecp := hide ecp
  have HB2 := hide hB2
  have Hb2 := hide hb2
  clear ecp hm0 hB0 hb1 hB2 hb2 c1 hb
  go_enter Try.func110, Try.ntmps110
  go_wp2_with (go_at_call 136; refine Hm0.out.mono ?_; rintro e w' ⟨rfl, hww⟩; rw [hww]; clear hww)
  all_goals first | (exfalso; omega) | skip
  clear hmk hcp0
  go_loopw [8] (fun i V => ∃ U, U = V ∧ Below w.heap.size w U ∧ ∃ n : Nat, 1 ≤ n ∧ n ≤ N ∧ i = .int .i64 n ∧ Blk U w.heap.size 3 (ints (reps z n N)).toArray) (fun i _ => N - (intOf i).toNat)
  case atStart => exact ⟨_, rfl, Hb2.out, 1, by omega, by omega, rfl, HB2.out⟩
  case round =>
    clear Hb2 HB2
    obtain ⟨U, rfl, hb, n, hn1, hn2, rfl, hB⟩ := hrel
    by_cases hlt : n < N
    · obtain ⟨k, hk1, hk2⟩ : ∃ k, k = min n (N - n) ∧ n + k ≤ N := ⟨_, rfl, by omega⟩
      have hcp : ∀ m, (Builtin.copy_ #[26, 26] 3 #[.slice (some ⟨w.heap.size, n, none⟩) (N - n) (N - n), .slice (some ⟨w.heap.size, 0, none⟩) n N]).run Try.prog (U.drewN m) = .ok (.int .i64 k) ((U.drewN m).setRow w.heap.size (ints (reps z (n + k) N)).toArray) := by
        intro m
        refine Hecp.out n k (U.drewN m) ⟨w.heap.size, 0, none⟩ n N hB hk2 hk1 fun j v hv => ?_
        have hj : j < k := by
          rcases Nat.lt_or_ge j k with h | h
          · exact h
          · rw [List.getElem?_eq_none (by simpa using h)] at hv; cases hv
        have hv' : v = .int .i64 z := by simp [hj] at hv; exact hv.symm
        subst hv'
        have e := (show Blk (U.drewN m) _ _ _ from hB).cell j
        have e2 : (⟨w.heap.size, 0, none⟩ : Addr).add j = ⟨w.heap.size, j, none⟩ := by unfold Addr.add; split <;> simp_all
        rw [e2, e]
        have hjn : j < n := by omega
        simp [reps, List.getElem?_append, hjn]
      obtain ⟨U2, hcp1, hB3, hb3⟩ : ∃ U2, (Builtin.copy_ #[26, 26] 3 #[.slice (some ⟨w.heap.size, n, none⟩) (N - n) (N - n), .slice (some ⟨w.heap.size, 0, none⟩) n N]).run Try.prog U.drew = .ok (.int .i64 k) U2 ∧ Blk U2 w.heap.size 3 (ints (reps z (n + k) N)).toArray ∧ Below w.heap.size w U2 :=
        ⟨_, hcp 1, setRow_heap _ _ _ _ _ _ hB, below_setRow (bdrew hb 1) (Nat.le_refl _) _⟩
      have Hk1 := hide (And.intro hk1 hk2)
      have hk3 : 0 < k ∧ k ≤ N := by omega
      clear hcp hB hk1 hk2
      have wk : IntKind.i64.wrap ((n : Int) + k) = n + k := IntWalk.i64_in _ (by omega)
      have hlt' : (n : Int) < N := by omega
      go_wp2_with fail
      go_region
      go_roundw
      case rel =>
        iterate 14 apply Exists.intro
        refine ⟨?_, rfl⟩
        exact ⟨_, rfl, hb3, n + k, by omega, by have := Hk1.out; omega, by go_num, hB3⟩
      case measure => have := Hk1.out; simp [intOf]; omega
    · obtain rfl : n = N := by omega
      go_wp2_with fail
      go_ret
      exact ⟨rfl, by simpa [reps] using hB, hb⟩
end Go.Proofs.Ythpjjlmgdalpaaa
