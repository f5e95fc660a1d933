/- well.Productive, Reached, terms, Check. -/
import Derived.Test.YthpjjlmgdalpaaaB18
namespace Go.Proofs.Ythpjjlmgdalpaaa
open Go.RowKit

theorem Own.mono {w : World} {B B' : Nat} {e : TypeId} {v : Value} {xs : List Value} (h : Own w B e v xs) (hB : B' ≤ B) : Own w B' e v xs := by
  obtain ⟨h1, h2⟩ := h
  refine ⟨h1, h2.imp id ?_⟩
  rintro ⟨g, cap, cur, e1, e2, e3⟩
  exact ⟨g, cap, cur, e1, by omega, e3⟩

set_option maxRecDepth 8000 in
theorem productive_any (v : GV) (g : G) (w : World) (hg : GAt w w.heap.size v g) (hv : VG g) :
    Calls Try.prog 103 #[.agg #[.slice v.An g.names.length v.cn, .slice v.At g.terms.length v.ct, .slice v.Ar g.rules.length v.cr]] w fun e w' => (∃ x, e = .returned x ∧ Own w' w.heap.size 4 x (bools (prodN g (g.names.length + 1)))) ∧ Below w.heap.size w w' := by
  have hsm : g.names.length ≤ 1000000 := by have := hv.sy; omega
  have Hb0 := hide (Bx.self (w := w) (cs := #[.slice v.An g.names.length v.cn, .slice v.At g.terms.length v.ct, .slice v.Ar g.rules.length v.cr]) (T := 25))
  have HC1 := hide (shortest_any v g _ (hg.bx Hb0.out) hv)
  clear hg hv
  obtain ⟨An, cn, At, ct, Ar, cr⟩ := v
  dsimp only at Hb0 HC1
  go_enter Try.func103, Try.ntmps103
  go_wp2_with (go_at_call 132; refine HC1.out.mono ?_; rintro e W1 ⟨⟨b, S, hb, rfl, s1, s2, s3⟩, hb1⟩; have Hb1 := hide (Hb0.out.call hb1).below; have HS := hide s3; have hbl := s3.lt; have Hs2 := hide s2; clear hb1 HC1 Hb0 s3 s2 hb)
  go_loopw [3, 9] (fun x i V => ∃ W, W = V ∧ Below W1.heap.size W1 W ∧ ∃ k : Nat, k ≤ g.names.length ∧ i = .int .i64 k ∧ Own W W1.heap.size 4 x (bools ((sgn S).take k))) (fun _ i _ => g.names.length - (intOf i).toNat)
  case atStart => exact ⟨_, rfl, Below.refl _ _, 0, by omega, rfl, Own.nil _ _ _⟩
  case round =>
    obtain ⟨W, rfl, hb, k, hk, rfl, hown⟩ := hrel
    by_cases hlt : k < g.names.length
    · have hkl : k < S.length := by omega
      have e2 : W.cell? ⟨b, k, none⟩ = some (.int .i64 S[k]) := by rw [(HS.out.below hb hbl).cell k]; simp [hkl]
      have Hst : Hid (bools ((sgn S).take (k + 1)) = bools ((sgn S).take k) ++ [.bool (decide (0 ≤ S[k]))]) := by
        unfold Hid bools sgn
        rw [← List.map_take, ← List.map_take, List.take_succ_eq_append_getElem hkl, List.map_append, List.map_append]; rfl
      have Hb := hide hb; have Hown := hide hown
      have hle : (bools ((sgn S).take k)).length ≤ k := by simp; omega
      clear hb hown
      go_wp2_with (first | (at_builtin; go_must (refine wp_push W1 _ rfl _ _ _ rfl W1.heap.size 4 (.bool false) 1 Try.underlying59 infoB rfl _ _ rfl Hown.out (.bool (decide (0 ≤ S[k]))) ⟨_, rfl, by simp⟩ rfl (by omega) Hb.out (Nat.le_refl _) (by decide) ?_); intro v' w1 h1 h2 h3 h4) | go_in)
      go_roundw
      case rel => exact ⟨_, rfl, h2, k + 1, by omega, by go_num, by rw [Hst.out]; exact h1⟩
      case measure => simp [intOf]; omega
    · obtain rfl : k = g.names.length := by omega
      rw [List.take_of_length_le (by simp [sgn]; omega), Hs2.out] at hown
      go_wp2_with fail
      go_ret
      exact ⟨⟨_, rfl, hown.mono Hb1.out.size⟩, Hb1.out.trans (hb.mono Hb1.out.size)⟩
end Go.Proofs.Ythpjjlmgdalpaaa
