/- gram.twice, gram.Of. -/
import Derived.Test.YthpjjlmgdalpaaaB8
namespace Go.Proofs.Ythpjjlmgdalpaaa
open Go.RowKit

theorem mem_take_succ' {α : Type} (l : List α) (s : α) (k : Nat) (h : k < l.length) : s ∈ l.take (k + 1) ↔ s ∈ l.take k ∨ s = l[k] := mem_take_succ l s k h
theorem twice1_any (x r : Rule) (C D : Option Addr) (c d : Nat) (q : Nat) (w : World) (hq : ∀ i, w.cell? ⟨q, i, none⟩ = #[.int .i64 r.left, .slice D r.right.length d][i]?) (hqB : q < w.heap.size)
    (hC : SlAt w w.heap.size C (ints x.right)) (hD : SlAt w w.heap.size D (ints r.right)) (hc : x.right.length ≤ c) (hd : r.right.length ≤ d) (hm : x.right.length ≤ 9223372036854775807) (hm2 : r.right.length ≤ 9223372036854775807) :
    Calls Try.prog 129 #[.agg #[.int .i64 x.left, .slice C x.right.length c], .pointer (some ⟨q, 0, none⟩)] w fun e w' => e = .returned (.bool (decide (x = r))) ∧ Below w.heap.size w w' := by
  have Hb : Hid (Below w.heap.size w (w.alloc (.cells #[.int .i64 x.left, .slice C x.right.length c] 35))) := (Below.refl _ _).alloc (Nat.le_refl _) _
  have Hcall : Hid (Calls Try.prog 130 #[.agg #[.int .i64 x.left, .slice C x.right.length c], .agg #[.int .i64 r.left, .slice D r.right.length d]] (w.alloc (.cells #[.int .i64 x.left, .slice C x.right.length c] 35)) fun e w' => e = .returned (.bool (decide (x = r))) ∧ Below (w.alloc (.cells #[.int .i64 x.left, .slice C x.right.length c] 35)).heap.size (w.alloc (.cells #[.int .i64 x.left, .slice C x.right.length c] 35)) w') :=
    like_any x r C D c d _ ((hC.alloc (Nat.le_refl _) _).more (by simp)) ((hD.alloc (Nat.le_refl _) _).more (by simp)) hc hd hm hm2
  clear hC hD
  go_enter Try.func129, Try.ntmps129
  go_wp2_with (go_at_call 130; refine Hcall.out.mono ?_; rintro e w' ⟨rfl, hb⟩)
  go_ret
  exact ⟨rfl, Hb.out.trans (hb.mono (by simp))⟩

theorem indexfunc_twice (r : Rule) (D : Option Addr) (d : Nat) (q : Nat) (w : World) (hq : ∀ i, w.cell? ⟨q, i, none⟩ = #[.int .i64 r.left, .slice D r.right.length d][i]?) (hqB : q < w.heap.size)
    (hD : SlAt w w.heap.size D (ints r.right)) (hd : r.right.length ≤ d) (hm2 : r.right.length ≤ 9223372036854775807)
    (A : Option Addr) (c : Nat) (rs : List Rule) (hA : RulesAt w w.heap.size A rs) (hc : rs.length ≤ c) (hm : rs.length ≤ 9223372036854775807) (hr : ∀ r ∈ rs, r.right.length ≤ 9223372036854775807) :
    Calls Try.prog 142 #[.slice A rs.length c, .func (.func 129) #[] #[.pointer (some ⟨q, 0, none⟩)]] w fun e w' => (∃ n : Int, e = .returned (.int .i64 n) ∧ (0 ≤ n ↔ r ∈ rs)) ∧ Below w.heap.size w w' := by
  have eg := enters_of Try.func129 (by kernel_rfl) rfl
  have Hp : Hid (∀ (x : Rule) (C : Option Addr) (c : Nat) (W : World), Below w.heap.size w W → SlAt w w.heap.size C (ints x.right) → x.right.length ≤ c → x.right.length ≤ 9223372036854775807 →
      Calls Try.prog 129 #[.agg #[.int .i64 x.left, .slice C x.right.length c], .pointer (some ⟨q, 0, none⟩)] W fun e w' => e = .returned (.bool (decide (x = r))) ∧ Below W.heap.size W w') := by
    intro x C c W hb hC hc1 hm1
    exact twice1_any x r C D c d q W (fun i => by rw [← hq i]; exact hb.cell hqB) (Nat.lt_of_lt_of_le hqB hb.size) ((hC.below hb).more hb.size) ((hD.below hb).more hb.size) hc1 hd hm1 hm2
  have HA := hide hA
  have HR := hide hr
  clear hA hq hqB hD hd hm2 hr
  go_enter Try.func142, Try.ntmps142
  go_wp2
  go_loopw [8] (fun i V => ∃ W, W = V ∧ Below w.heap.size w W ∧ ∃ k : Nat, k ≤ rs.length ∧ i = .int .i64 k ∧ Hid (r ∉ rs.take k)) (fun i _ => rs.length - (intOf i).toNat)
  case atStart => exact ⟨_, rfl, Below.refl _ _, 0, Nat.zero_le _, rfl, by simp [Hid]⟩
  case round =>
    obtain ⟨W, rfl, hb, k, hk, rfl, hall⟩ := hrel
    by_cases hlt : k < rs.length
    · obtain ⟨b, off, rfl, hbb, C, c', k1, k2, k3, k4⟩ := HA.out.at_ hlt
      have c1 := (hb.cell hbb).trans k1
      have c2 := (hb.cell hbb).trans k2
      have HC := hide (Hp.out rs[k] C c' W hb k4 k3 (HR.out _ (List.getElem_mem hlt)))
      have Hb := hide hb
      clear hb k1 k2 k3 k4 hbb
      by_cases he : rs[k] = r
      · have He := hide he
        clear he
        rw [decide_eq_true He.out] at HC
        go_wp2_with ((with_reducible refine calls_id ?_); refine HC.out.mono ?_; rintro e w' ⟨rfl, hb1⟩)
        go_ret
        refine ⟨⟨_, rfl, ?_⟩, Hb.out.trans (hb1.mono Hb.out.size)⟩
        have : r ∈ rs := He.out ▸ List.getElem_mem hlt
        simp [this]
      · have He := hide he
        clear he
        rw [decide_eq_false He.out] at HC
        go_wp2_with ((with_reducible refine calls_id ?_); refine HC.out.mono ?_; rintro e w' ⟨rfl, hb1⟩)
        go_roundw
        case rel => exact ⟨_, rfl, Hb.out.trans (hb1.mono Hb.out.size), k + 1, by omega, by go_num, by rw [Hid, mem_take_succ _ _ _ hlt]; exact fun h => h.elim hall.out fun e => He.out e.symm⟩
        case measure => simp [intOf]; omega
    · go_wp2_with fail
      go_ret
      have := hall.out
      rw [List.take_of_length_le (by omega)] at this
      exact ⟨⟨-1, rfl, by simp [this]⟩, hb⟩
theorem containsfunc_twice (r : Rule) (D : Option Addr) (d : Nat) (q : Nat) (w : World) (hq : ∀ i, w.cell? ⟨q, i, none⟩ = #[.int .i64 r.left, .slice D r.right.length d][i]?) (hqB : q < w.heap.size)
    (hD : SlAt w w.heap.size D (ints r.right)) (hd : r.right.length ≤ d) (hm2 : r.right.length ≤ 9223372036854775807)
    (A : Option Addr) (c : Nat) (rs : List Rule) (hA : RulesAt w w.heap.size A rs) (hc : rs.length ≤ c) (hm : rs.length ≤ 9223372036854775807) (hr : ∀ r ∈ rs, r.right.length ≤ 9223372036854775807) :
    Calls Try.prog 128 #[.slice A rs.length c, .func (.func 129) #[] #[.pointer (some ⟨q, 0, none⟩)]] w fun e w' => e = .returned (.bool (decide (r ∈ rs))) ∧ Below w.heap.size w w' := by
  have HI := hide (indexfunc_twice r D d q w hq hqB hD hd hm2 A c rs hA hc hm hr)
  have hdn : ∀ n : Int, (0 ≤ n ↔ r ∈ rs) → decide (0 ≤ n) = decide (r ∈ rs) := fun n h => by rw [decide_eq_decide]; exact h
  have Hdn := hide hdn
  clear hA hq hqB hD hd hm2 hr hdn
  revert HI Hdn
  generalize decide (r ∈ rs) = b
  intro HI Hdn
  go_enter Try.func128, Try.ntmps128
  go_wp2_with (go_at_call 142; refine HI.out.mono ?_; rintro e w' ⟨⟨n, rfl, hn⟩, hb⟩; have Hn := hide (Hdn.out n hn); clear hn)
  all_goals
    go_ret
    exact ⟨ret_b Hn.out, hb⟩

theorem RulesAt.take {w : World} {B : Nat} {A : Option Addr} {rs : List Rule} (h : RulesAt w B A rs) (k : Nat) : RulesAt w B A (rs.take k) := by
  rcases h with rfl | ⟨b, off, h1, h2, h3⟩
  · left; simp
  · refine .inr ⟨b, off, h1, h2, fun j hj => ?_⟩
    have hj' : j < rs.length := by rw [List.length_take] at hj; omega
    rw [List.getElem_take]
    exact h3 j hj'
theorem RulesAt.below {w w' : World} {B : Nat} {A : Option Addr} {rs : List Rule} (h : RulesAt w B A rs) (hb : Below B w w') : RulesAt w' B A rs := h.keep fun _ hp => hb.cell hp

theorem twice_any (A : Option Addr) (c : Nat) (rs : List Rule) (w : World) (hA : RulesAt w w.heap.size A rs) (hc : rs.length ≤ c) (hm : c ≤ 9223372036854775807) (hr : ∀ r ∈ rs, r.right.length ≤ 9223372036854775807) :
    Calls Try.prog 98 #[.slice A rs.length c] w fun e w' => e = .returned (.bool (bool (¬ rs.Nodup))) ∧ Below w.heap.size w w' := by
  have HA := hide hA
  have HR := hide hr
  clear hA hr
  go_enter Try.func98, Try.ntmps98
  go_wp2
  go_loopw [7] (fun i V => ∃ W, W = V ∧ Below w.heap.size w W ∧ ∃ k : Nat, k ≤ rs.length ∧ i = .int .i64 k ∧ Hid (Apart rs k)) (fun i _ => rs.length - (intOf i).toNat)
  case atStart => exact ⟨_, rfl, Below.refl _ _, 0, Nat.zero_le _, rfl, fun _ _ h => absurd h (by omega)⟩
  case round =>
    obtain ⟨W, rfl, hb, i, hi, rfl, hap⟩ := hrel
    by_cases hlt : i < rs.length
    · obtain ⟨b, off, rfl, hbb, C, c', k1, k2, k3, k4⟩ := HA.out.at_ hlt
      have c1 := (hb.cell hbb).trans k1
      have c2 := (hb.cell hbb).trans k2
      have hsz := hb.size
      have Hb := hide hb
      have Hc : Hid (Calls Try.prog 128 #[.slice (some ⟨b, off, none⟩) i c, .func (.func 129) #[] #[.pointer (some ⟨W.heap.size, 0, none⟩)]] (W.alloc (.cells #[.int .i64 rs[i].left, .slice C rs[i].right.length c'] 35)) fun e w' => e = .returned (.bool (decide (rs[i] ∈ rs.take i))) ∧ Below (W.alloc (.cells #[.int .i64 rs[i].left, .slice C rs[i].right.length c'] 35)).heap.size (W.alloc (.cells #[.int .i64 rs[i].left, .slice C rs[i].right.length c'] 35)) w') := by
        have hb2 : Below w.heap.size w (W.alloc (.cells #[.int .i64 rs[i].left, .slice C rs[i].right.length c'] 35)) := hb.alloc hsz _
        have := containsfunc_twice rs[i] C c' W.heap.size (W.alloc (.cells #[.int .i64 rs[i].left, .slice C rs[i].right.length c'] 35)) (Blk.new W _ _).cell (by simp)
          ((k4.below hb2).more hb2.size) k3 (HR.out _ (List.getElem_mem hlt)) (some ⟨b, off, none⟩) c (rs.take i) (((HA.out.take i).below hb2).more hb2.size) (by rw [List.length_take]; omega) (by rw [List.length_take]; omega) (fun r h => HR.out r (List.mem_of_mem_take h))
        rw [List.length_take, Nat.min_eq_left (by omega)] at this
        exact this
      clear hb k1 k2 k3 k4 hbb
      by_cases hin : rs[i] ∈ rs.take i
      · rw [decide_eq_true hin] at Hc
        have hno := hide (show ¬ rs.Nodup from fun h => by
          rw [← apart_nodup] at h
          obtain ⟨j, hj, e⟩ := List.mem_iff_getElem.1 hin
          rw [List.length_take] at hj
          rw [List.getElem_take] at e
          exact h i hlt hlt j (by omega) e)
        clear hin
        go_wp2_with (go_at_call 128; refine Hc.out.mono ?_; rintro e w' ⟨rfl, hb1⟩)
        all_goals first | (exfalso; omega) | skip
        go_ret
        exact ⟨ret_b (bool_true hno.out).symm, (Hb.out.alloc hsz _).trans (hb1.mono (by simp; omega))⟩
      · rw [decide_eq_false hin] at Hc
        have Hin := hide hin
        clear hin
        go_wp2_with (go_at_call 128; refine Hc.out.mono ?_; rintro e w' ⟨rfl, hb1⟩)
        all_goals first | (exfalso; omega) | skip
        go_roundw
        case rel =>
          refine ⟨_, rfl, (Hb.out.alloc hsz _).trans (hb1.mono (by simp; omega)), i + 1, by omega, by go_num, fun a ha hai b' hb' e => ?_⟩
          by_cases ea : a = i
          · subst ea
            apply Hin.out
            rw [← e]
            exact List.mem_iff_getElem.2 ⟨b', by rw [List.length_take]; omega, by rw [List.getElem_take]⟩
          · exact hap.out a ha (by omega) b' hb' e
        case measure => simp [intOf]; omega
    · go_wp2_with fail
      go_ret
      refine ⟨ret_b ?_, hb⟩
      symm; apply bool_false
      rw [← apart_nodup]
      have := hap.out
      rw [show i = rs.length by omega] at this
      exact fun h => h this
end Go.Proofs.Ythpjjlmgdalpaaa
