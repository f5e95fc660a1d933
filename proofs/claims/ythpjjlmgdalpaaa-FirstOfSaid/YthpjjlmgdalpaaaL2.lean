/- FirstWords: the walk. -/
import Derived.Test.YthpjjlmgdalpaaaL1
import Derived.Test.YthpjjlmgdalpaaaE9
namespace Go.Proofs.Ythpjjlmgdalpaaa
open Go.RowKit

theorem few_le {g : G} (h : fewB g = true) : g.names.length ≤ 12 ∧ g.terms.length ≤ 12 ∧ g.rules.length ≤ 40 := by
  unfold fewB at h
  simp only [Bool.and_eq_true, decide_eq_true_eq] at h
  exact ⟨h.1, h.2.1, h.2.2.1⟩
theorem few_val {g : G} {w w' : World} {e : Ending} (h : FewPost g w e w') : e = .returned (.int .i64 (if fewB g then 1 else 0)) ∧ Below w.heap.size w w' := h

set_option maxHeartbeats 2000000 in
set_option maxRecDepth 20000 in
theorem firstwords_few (v : GV) (g : G) (k : Int) (w : World) (hg : GAt w w.heap.size v g) (hf : ¬ (fewB g = true ∧ g.terms.length ≤ 3)) :
    Calls Try.prog 5 #[.agg #[.slice v.An g.names.length v.cn, .slice v.At g.terms.length v.ct, .slice v.Ar g.rules.length v.cr], .int .i64 k] w fun e w' => e = .returned (.bool true) ∧ Below w.heap.size w w' := by
  have Hb0 := hide (Bx.self (w := w) (cs := #[.slice v.An g.names.length v.cn, .slice v.At g.terms.length v.ct, .slice v.Ar g.rules.length v.cr]) (T := 25))
  have HF := hide (few_any v g _ (hg.bx Hb0.out))
  have ht := hg.ht
  clear hg
  obtain ⟨An, cn, At, ct, Ar, cr⟩ := v
  dsimp only at Hb0 HF ht
  by_cases h1 : fewB g = true
  · have h2 : ¬ g.terms.length ≤ 3 := fun h => hf ⟨h1, h⟩
    have H1 := hide h1
    clear hf h1
    go_enter Try.func5, Try.ntmps5
    go_wp2_with (first
      | (go_at_call 15; refine HF.out.mono ?_; rintro e w1 ⟨rfl, hb1⟩; rw [if_pos H1.out]; have Hb1 := hide (Hb0.out.call hb1); have cG := Hb1.out.cell; clear hb1)
      | (go_at_call 24; refine (awake20_any _).mono ?_; rintro e w2 ⟨rfl, hb2⟩))
    all_goals first | (exfalso; omega) | skip
    go_ret
    exact ⟨rfl, (Hb1.out.call hb2).below⟩
  · have H1 := hide h1
    clear hf h1
    go_enter Try.func5, Try.ntmps5
    go_wp2_with (first
      | (go_at_call 15; refine HF.out.mono ?_; rintro e w1 ⟨rfl, hb1⟩; rw [if_neg H1.out]; have Hb1 := hide (Hb0.out.call hb1); have cG := Hb1.out.cell; clear hb1)
      | (go_at_call 24; refine (awake20_any _).mono ?_; rintro e w2 ⟨rfl, hb2⟩))
    all_goals first | (exfalso; omega) | skip
    go_ret
    exact ⟨rfl, (Hb1.out.call hb2).below⟩

set_option maxHeartbeats 2000000 in
set_option maxRecDepth 20000 in
theorem firstwords_bad (v : GV) (g : G) (k : Int) (w : World) (hg : GAt w w.heap.size v g) (hf : fewB g = true) (h3 : g.terms.length ≤ 3) (hbad : k < 1 ∨ 4 < k ∨ ¬ WM g) :
    Calls Try.prog 5 #[.agg #[.slice v.An g.names.length v.cn, .slice v.At g.terms.length v.ct, .slice v.Ar g.rules.length v.cr], .int .i64 k] w fun e w' => e = .returned (.bool true) ∧ Below w.heap.size w w' := by
  have Hb0 := hide (Bx.self (w := w) (cs := #[.slice v.An g.names.length v.cn, .slice v.At g.terms.length v.ct, .slice v.Ar g.rules.length v.cr]) (T := 25))
  have HF := hide (few_any v g _ (hg.bx Hb0.out))
  have ht := hg.ht
  have hl := few_le hf
  have HG := hide hg
  have H1 := hide hf
  have hsm : g.names.length ≤ 1000000 ∧ g.terms.length ≤ 1000000 := by omega
  have HS := hide (fun W (hW : Bx w #[.slice v.An g.names.length v.cn, .slice v.At g.terms.length v.ct, .slice v.Ar g.rules.length v.cr] 25 W) => fsets_bad v g k W (hg.bx hW) hsm hbad)
  have HC : Hid (¬ (k < 1 ∨ 4 < k) → ∀ W, Bx w #[.slice v.An g.names.length v.cn, .slice v.At g.terms.length v.ct, .slice v.Ar g.rules.length v.cr] 25 W → Calls Try.prog 21 #[.agg #[.slice v.An g.names.length v.cn, .slice v.At g.terms.length v.ct, .slice v.Ar g.rules.length v.cr]] W fun e w' => (∃ n : Int, (n == 0) = false ∧ e = .returned (.int .i64 n)) ∧ Below W.heap.size W w') := fun hk W hW =>
    (check15_any v g W (hg.bx hW) hsm).mono fun e w' ⟨⟨n, h1, h2⟩, h3⟩ => ⟨⟨n, by
      rw [beq_eq_false_iff_ne]; intro e
      rcases hbad with h | h | h
      · exact hk (.inl h)
      · exact hk (.inr h)
      · exact h (h2.1 e), h1⟩, h3⟩
  clear hg hf hbad
  obtain ⟨An, cn, At, ct, Ar, cr⟩ := v
  dsimp only at Hb0 HF ht HG HS HC
  by_cases hk : k < 1 ∨ 4 < k
  · rcases hk with hk | hk
    all_goals
      go_enter Try.func5, Try.ntmps5
      go_wp2_with (first
        | (go_at_call 15; refine HF.out.mono ?_; rintro e w1 ⟨rfl, hb1⟩; rw [if_pos H1.out]; have Hb1 := hide (Hb0.out.call hb1); have cG := Hb1.out.cell; clear hb1)
        | (go_at_call 25; refine (HS.out _ Hb1.out).mono ?_; rintro e w2 ⟨rfl, hb2⟩; have Hb2 := hide (Hb1.out.call hb2); clear hb2)
        | (go_at_call 24; refine (awake20_any _).mono ?_; rintro e w3 ⟨rfl, hb3⟩))
      all_goals first | (exfalso; omega) | skip
      go_ret
      exact ⟨rfl, (Hb2.out.call hb3).below⟩
  · have HC2 := hide (HC.out hk)
    clear HC
    go_enter Try.func5, Try.ntmps5
    go_wp2_with (first
      | (go_at_call 15; refine HF.out.mono ?_; rintro e w1 ⟨rfl, hb1⟩; rw [if_pos H1.out]; have Hb1 := hide (Hb0.out.call hb1); have cG := Hb1.out.cell; clear hb1)
      | (go_at_call 25; refine (HS.out _ Hb1.out).mono ?_; rintro e w2 ⟨rfl, hb2⟩; have Hb2 := hide (Hb1.out.call hb2); have cG2 := Hb2.out.cell; clear hb2)
      | (go_at_call 21; refine (HC2.out _ Hb2.out).mono ?_; rintro e w4 ⟨⟨n, hn, rfl⟩, hb4⟩; have hn2 : (n != 0) = true := (by rw [bne, hn]; rfl); have Hb4 := hide (Hb2.out.call hb4); clear hb4)
      | (go_at_call 24; refine (awake20_any _).mono ?_; rintro e w3 ⟨rfl, hb3⟩))
    all_goals first | (exfalso; omega) | skip
    go_ret
    exact ⟨rfl, (Hb4.out.call hb3).below⟩
end Go.Proofs.Ythpjjlmgdalpaaa
