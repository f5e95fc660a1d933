/- slices.Grow from nil, slices.Concat of two, wset.Union of two. -/
import Derived.Test.YthpjjlmgdalpaaaC2
namespace Go.Proofs.Ythpjjlmgdalpaaa
open Go.RowKit Go.Lib

set_option maxRecDepth 8000 in
theorem grow_nil (n : Nat) (w : World) (hn : n ≤ 2000000000) :
    Calls Try.prog 140 #[.slice none 0 0, .int .i64 n] w fun e w' => (∃ x, e = .returned x ∧ Own w' w.heap.size 9 x []) ∧ Below w.heap.size w w' := by
  have w1 : IntKind.i64.wrap ((n : Int) - 0) = n := by rw [Int.sub_zero]; exact IntWalk.i64_in _ (by omega)
  by_cases h0 : n = 0
  · subst h0
    go_enter Try.func140, Try.ntmps140
    go_wp2_with fail
    go_ret
    exact ⟨⟨_, rfl, Own.nil _ _ _⟩, Below.refl _ _⟩
  · have hpos : (0 : Int) < n := by omega
    obtain ⟨i0, hi, hz0, hz2, hz3⟩ := info_parts infoS
    have hrz := Lib.run_append_grow_zeros (P := Try.prog) w 22 3 22 9 i0 (.string ByteArray.empty) .i64 .i64 Try.underlying22 Try.underlying3 hi hz0 none 0 0 [] (run_firstCells_none w.drew i0.size 0 0 0) n (by omega) (by omega) (by omega) (by omega) (by rw [hz3]; omega)
      (growslice_fits (by omega) (by rw [hz3]; omega))
    rw [Nat.zero_add] at hrz
    have hg1 := grownCap_ge w n 0 9
    have hg2 := grownCap_le_maxLen w n 0 9 (by unfold maxLen; omega)
    unfold maxLen at hg2
    generalize grownCap w n 0 9 = G at hrz hg1 hg2
    obtain ⟨W1, hW1, hrz1⟩ : ∃ W1, W1 = w.drew.alloc (.cells (([] : List Value).toArray ++ Builtin.zeroCells (Value.string ByteArray.empty).cells n ++ Builtin.zeroCells (Value.string ByteArray.empty).cells (G - n)) 9) ∧ (Builtin.append_ #[22, 3] 22 #[.slice none 0 0, .int .i64 n]).run Try.prog w = .ok (.slice (some ⟨w.heap.size, 0, none⟩) n G) W1 := ⟨_, rfl, hrz⟩
    have hown : Hid (Own W1 w.heap.size 9 (.slice (some ⟨w.heap.size, 0, none⟩) 0 G) []) := by
      refine ⟨by simp, .inr ⟨w.heap.size, G, (([] : List Value).toArray ++ Builtin.zeroCells (Value.string ByteArray.empty).cells n ++ Builtin.zeroCells (Value.string ByteArray.empty).cells (G - n)), rfl, Nat.le_refl _, ?_, Nat.zero_le _, by unfold maxLen; omega, ?_, by simp⟩⟩
      · rw [hW1]; exact heap_alloc_new w.drew _
      · simp [size_zeroCells, Value.cells]; omega
    have hb : Hid (Below w.heap.size w W1) := by rw [hW1]; exact (bdrew (Below.refl _ _) 1).alloc (Nat.le_refl _) _
    clear hrz hW1
    go_enter Try.func140, Try.ntmps140
    go_wp2_with (at_builtin; refine Lib.wpList_append_run _ rfl _ _ _ _ rfl _ _ rfl rfl _ _ hrz1 ?_)
    all_goals first | (exfalso; omega) | skip
    go_ret
    exact ⟨⟨_, rfl, hown.out⟩, hb.out⟩

set_option maxRecDepth 8000 in
theorem concat2_any (v1 v2 : Value) (l1 l2 : List (List UInt8)) (b : Nat) (w : World) (h1 : SV w w.heap.size v1 (wsv l1)) (h2 : SV w w.heap.size v2 (wsv l2)) (hl1 : l1.length ≤ 1000000) (hl2 : l2.length ≤ 1000000)
    (c1 : w.cell? ⟨b, 0, none⟩ = some v1) (c2 : w.cell? ⟨b, 1, none⟩ = some v2) (hb : b < w.heap.size) :
    Calls Try.prog 114 #[.slice (some ⟨b, 0, none⟩) 2 2] w fun e w' => (∃ x, e = .returned x ∧ Own w' w.heap.size 9 x (wsv (l1 ++ l2))) ∧ Below w.heap.size w w' := by
  obtain ⟨A1, k1, rfl, f1, f2, f3, f4⟩ := id h1
  obtain ⟨A2, k2, rfl, g1, g2, g3, g4⟩ := id h2
  have H1 := hide h1; have H2 := hide h2
  have e1 : (wsv l1).length = l1.length := by simp
  have e2 : (wsv l2).length = l2.length := by simp
  have HG := hide (grow_nil (l1.length + l2.length) w (by omega))
  have hw1 : IntKind.i64.wrap ((0 : Int) + l1.length) = l1.length := by rw [Int.zero_add]; exact IntWalk.i64_in _ (by omega)
  have hw2 : IntKind.i64.wrap ((l1.length : Int) + l2.length) = l1.length + l2.length := IntWalk.i64_in _ (by omega)
  clear h1 h2 f1 f2 f3 f4 g1 g2 g3 g4
  rw [e1] at c1 H1
  rw [e2] at c2 H2
  clear e1 e2
  go_enter Try.func114, Try.ntmps114
  go_wp2_with fail
  go_loop [3, 11] (fun n i => (i = .int .i64 0 ∧ n = .int .i64 0) ∨ (i = .int .i64 1 ∧ n = .int .i64 l1.length) ∨ (i = .int .i64 2 ∧ n = .int .i64 ((l1.length : Int) + l2.length))) (fun _ i => 2 - (intOf i).toNat)
  case atStart => exact .inl ⟨rfl, rfl⟩
  case round =>
    rcases hrel with ⟨rfl, rfl⟩ | ⟨rfl, rfl⟩ | ⟨rfl, rfl⟩
    · go_wp2_with fail
      all_goals first | (exfalso; omega) | skip
      go_round
      case rel => exact .inr (.inl ⟨by go_num, rfl⟩)
      case measure => simp [intOf]
    · go_wp2_with fail
      all_goals first | (exfalso; omega) | skip
      go_round
      case rel => exact .inr (.inr ⟨by go_num, rfl⟩)
      case measure => simp [intOf]
    · go_wp2_with (go_at_call 140; refine HG.out.mono ?_; rintro e W1 ⟨⟨x, rfl, ho⟩, hb1⟩; have HO := hide ho; have Hb1 := hide hb1; clear ho hb1 HG)
      go_loopw [6, 27] (fun x i V => ∃ W, W = V ∧ Below w.heap.size w W ∧ ((i = .int .i64 0 ∧ Own W w.heap.size 9 x []) ∨ (i = .int .i64 1 ∧ Own W w.heap.size 9 x (wsv l1)) ∨ (i = .int .i64 2 ∧ Own W w.heap.size 9 x (wsv (l1 ++ l2))))) (fun _ i _ => 2 - (intOf i).toNat)
      case atStart => exact ⟨_, rfl, Hb1.out, .inl ⟨rfl, HO.out⟩⟩
      case round =>
        clear HO Hb1
        obtain ⟨W, rfl, hbw, hr⟩ := hrel
        have d1 := (hbw.cell (p := ⟨b, 0, none⟩) hb).trans c1
        have d2 := (hbw.cell (p := ⟨b, 1, none⟩) hb).trans c2
        have Hbw := hide hbw
        have S1 := hide (H1.out.call hbw)
        have S2 := hide (H2.out.call hbw)
        clear hbw
        rcases hr with ⟨rfl, ho⟩ | ⟨rfl, ho⟩ | ⟨rfl, ho⟩
        · have HO := hide ho
          clear ho
          go_wp2_with (first | (at_builtin; go_must (refine wp_appendS w _ rfl _ _ _ rfl w.heap.size 9 (.string ByteArray.empty) 16 Try.underlying22 infoS rfl _ _ rfl HO.out _ (wsv l1) rfl S1.out (wsv_oneCell l1) (by simp; omega) Hbw.out (Nat.le_refl _) (by decide) ?_); intro v' w1 h1 h2 h3) | go_in)
          all_goals first | (exfalso; omega) | skip
          go_roundw
          case rel => exact ⟨_, rfl, h2, .inr (.inl ⟨by go_num, by simpa using h1⟩)⟩
          case measure => simp [intOf]
        · have HO := hide ho
          clear ho
          go_wp2_with (first | (at_builtin; go_must (refine wp_appendS w _ rfl _ _ _ rfl w.heap.size 9 (.string ByteArray.empty) 16 Try.underlying22 infoS rfl _ _ rfl HO.out _ (wsv l2) rfl S2.out (wsv_oneCell l2) (by simp; omega) Hbw.out (Nat.le_refl _) (by decide) ?_); intro v' w1 h1 h2 h3) | go_in)
          all_goals first | (exfalso; omega) | skip
          go_roundw
          case rel => exact ⟨_, rfl, h2, .inr (.inr ⟨by go_num, by simpa using h1⟩)⟩
          case measure => simp [intOf]
        · go_wp2_with fail
          go_ret
          exact ⟨⟨_, rfl, ho⟩, Hbw.out⟩

set_option maxRecDepth 8000 in
theorem union2_any (v1 v2 : Value) (l1 l2 : List (List UInt8)) (b : Nat) (w : World) (h1 : SV w w.heap.size v1 (wsv l1)) (h2 : SV w w.heap.size v2 (wsv l2)) (hl1 : l1.length ≤ 1000000) (hl2 : l2.length ≤ 1000000)
    (c1 : w.cell? ⟨b, 0, none⟩ = some v1) (c2 : w.cell? ⟨b, 1, none⟩ = some v2) (hb : b < w.heap.size) :
    Calls Try.prog 72 #[.slice (some ⟨b, 0, none⟩) 2 2] w fun e w' => (∃ x, e = .returned x ∧ Own w' w.heap.size 9 x (wsv (srt (l1 ++ l2)))) ∧ Below w.heap.size w w' := by
  have HC := hide (concat2_any v1 v2 l1 l2 b w h1 h2 hl1 hl2 c1 c2 hb)
  have hl : (l1 ++ l2).length ≤ 1000000000 := by simp; omega
  clear h1 h2 c1 c2
  go_enter Try.func72, Try.ntmps72
  go_wp2_with (first
    | (go_at_call 114; refine HC.out.mono ?_; rintro e W1 ⟨⟨x, rfl, ho⟩, hb1⟩; have HO := hide (SV.of_own ho); have Hb1 := hide hb1; clear ho hb1)
    | (go_at_call 113; refine (wof_any _ (l1 ++ l2) W1 HO.out hl).mono ?_; rintro e W2 ⟨⟨y, rfl, ho2⟩, hb2⟩; have HO2 := hide ho2; have Hb2 := hide hb2; clear ho2 hb2))
  go_ret
  exact ⟨⟨_, rfl, HO2.out.mono Hb1.out.size⟩, Hb1.out.trans (Hb2.out.mono Hb1.out.size)⟩
end Go.Proofs.Ythpjjlmgdalpaaa
