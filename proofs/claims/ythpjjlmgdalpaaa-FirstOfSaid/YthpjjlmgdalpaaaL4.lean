/- FirstOf: the walk. -/
import Derived.Test.YthpjjlmgdalpaaaL3
import Derived.Test.YthpjjlmgdalpaaaP6
namespace Go.Proofs.Ythpjjlmgdalpaaa
open Go.RowKit

def Wide64 (l : List Int) : Prop := ∀ s ∈ l, -9223372036854775808 ≤ s ∧ s ≤ 9223372036854775807

set_option maxHeartbeats 2000000 in
set_option maxRecDepth 20000 in
theorem firstof_out (v : GV) (g : G) (k : Int) (A : Option Addr) (c : Nat) (syms : List Int) (w : World) (hg : GAt w w.heap.size v g) (hm : syms.length ≤ 9223372036854775807) (hf : ¬ (fewB g = true ∧ g.terms.length ≤ 3 ∧ syms.length ≤ 6 ∧ 1 ≤ k ∧ k ≤ 4 ∧ WM g)) :
    Calls Try.prog 6 #[.agg #[.slice v.An g.names.length v.cn, .slice v.At g.terms.length v.ct, .slice v.Ar g.rules.length v.cr], .int .i64 k, .slice A syms.length c] w fun e w' => e = .returned (.bool true) ∧ Below w.heap.size w w' := by
  have Hb0 := hide (Bx.self (w := w) (cs := #[.slice v.An g.names.length v.cn, .slice v.At g.terms.length v.ct, .slice v.Ar g.rules.length v.cr]) (T := 25))
  have HF := hide (few_any v g _ (hg.bx Hb0.out))
  have ht := hg.ht
  have HC : Hid (fewB g = true → ¬ WM g → ∀ W, Bx w #[.slice v.An g.names.length v.cn, .slice v.At g.terms.length v.ct, .slice v.Ar g.rules.length v.cr] 25 W → Calls Try.prog 21 #[.agg #[.slice v.An g.names.length v.cn, .slice v.At g.terms.length v.ct, .slice v.Ar g.rules.length v.cr]] W fun e w' => (∃ n : Int, (n == 0) = false ∧ e = .returned (.int .i64 n)) ∧ Below W.heap.size W w') := fun hf hw W hW =>
    (check15_any v g W (hg.bx hW) (by have := few_le hf; omega)).mono fun e w' ⟨⟨n, h1, h2⟩, h3⟩ => ⟨⟨n, by
      rw [beq_eq_false_iff_ne]; intro e
      exact hw (h2.1 e), h1⟩, h3⟩
  clear hg
  obtain ⟨An, cn, At, ct, Ar, cr⟩ := v
  dsimp only at Hb0 HF ht HC
  by_cases h1 : fewB g = true
  · have H1 := hide h1
    by_cases hc : g.terms.length ≤ 3 ∧ syms.length ≤ 6 ∧ 1 ≤ k ∧ k ≤ 4
    · obtain ⟨c1, c2, c3, c4⟩ := hc
      have HC2 := hide (HC.out h1 fun hw => hf ⟨h1, c1, c2, c3, c4, hw⟩)
      clear hf h1 HC
      go_enter Try.func6, Try.ntmps6
      go_wp2_with (first
        | (go_at_call 15; refine HF.out.mono ?_; rintro e w1 ⟨rfl, hb1⟩; rw [if_pos H1.out]; have Hb1 := hide (Hb0.out.call hb1); have cG := Hb1.out.cell; clear hb1)
        | (go_at_call 21; refine (HC2.out _ Hb1.out).mono ?_; rintro e w4 ⟨⟨n, hn, rfl⟩, hb4⟩; have hn2 : (n != 0) = true := (by rw [bne, hn]; rfl); have Hb4 := hide (Hb1.out.call hb4); clear hb4)
        | (go_at_call 24; refine (awake20_any _).mono ?_; rintro e w2 ⟨rfl, hb2⟩))
      all_goals first | (exfalso; omega) | skip
      go_ret
      exact ⟨rfl, (Hb4.out.call hb2).below⟩
    · have hc' : 3 < g.terms.length ∨ (g.terms.length ≤ 3 ∧ 6 < syms.length) ∨ (g.terms.length ≤ 3 ∧ syms.length ≤ 6 ∧ k < 1) ∨ (g.terms.length ≤ 3 ∧ syms.length ≤ 6 ∧ 1 ≤ k ∧ 4 < k) := by omega
      clear hf h1 HC hc
      rcases hc' with c1 | ⟨c1, c2⟩ | ⟨c1, c2, c3⟩ | ⟨c1, c2, c3, c4⟩
      all_goals
        go_enter Try.func6, Try.ntmps6
        go_wp2_with (first
          | (go_at_call 15; refine HF.out.mono ?_; rintro e w1 ⟨rfl, hb1⟩; rw [if_pos H1.out]; have Hb1 := hide (Hb0.out.call hb1); have cG := Hb1.out.cell; clear hb1)
          | (go_at_call 24; refine (awake20_any _).mono ?_; rintro e w2 ⟨rfl, hb2⟩))
        all_goals first | (exfalso; omega) | skip
        go_ret
        exact ⟨rfl, (Hb1.out.call hb2).below⟩
  · have H1 := hide h1
    clear hf h1 HC
    go_enter Try.func6, Try.ntmps6
    go_wp2_with (first
      | (go_at_call 15; refine HF.out.mono ?_; rintro e w1 ⟨rfl, hb1⟩; rw [if_neg H1.out]; have Hb1 := hide (Hb0.out.call hb1); have cG := Hb1.out.cell; clear hb1)
      | (go_at_call 24; refine (awake20_any _).mono ?_; rintro e w2 ⟨rfl, hb2⟩))
    all_goals first | (exfalso; omega) | skip
    go_ret
    exact ⟨rfl, (Hb1.out.call hb2).below⟩
end Go.Proofs.Ythpjjlmgdalpaaa
