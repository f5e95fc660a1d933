/- The reference's Check. -/
import Derived.Test.YthpjjlmgdalpaaaB13
namespace Go.Proofs.Ythpjjlmgdalpaaa
open Go.RowKit

/-- A grammar that is well made. -/
structure WM (g : G) : Prop where
  vg : VG g
  pr : ∀ i : Nat, i < g.names.length → (prodN g (g.names.length + 1)).getD i false = true
  re : ∀ i : Nat, i < g.names.length → (reachN g (g.names.length + 1)).getD i false = true
  us : ∀ t : Nat, t < g.terms.length → UsedP g (reachN g (g.names.length + 1)) t

set_option maxHeartbeats 4000000 in
set_option maxRecDepth 8000 in
theorem check15_any (v : GV) (g : G) (w : World) (hg : GAt w w.heap.size v g) (hsm : g.names.length ≤ 1000000 ∧ g.terms.length ≤ 1000000) :
    Calls Try.prog 21 #[.agg #[.slice v.An g.names.length v.cn, .slice v.At g.terms.length v.ct, .slice v.Ar g.rules.length v.cr]] w fun e w' => (∃ n : Int, e = .returned (.int .i64 n) ∧ (n = 0 ↔ WM g)) ∧ Below w.heap.size w w' := by
  have HG := hide hg
  have ht := hg.ht
  clear hg
  obtain ⟨An, cn, At, ct, Ar, cr⟩ := v
  dsimp only at ht
  have hno : ∀ (n : Int) (W : World), Bx w #[.slice An g.names.length cn, .slice At g.terms.length ct, .slice Ar g.rules.length cr] 25 W → n ≠ 0 → ¬ WM g → ((∃ m : Int, Ending.returned (.int .i64 n) = .returned (.int .i64 m) ∧ (m = 0 ↔ WM g)) ∧ Below w.heap.size w W) :=
    fun n W h1 h2 h3 => ⟨⟨n, rfl, fun h => absurd h h2, fun h => absurd h h3⟩, h1.below⟩
  have Hno := hide hno
  clear hno
  have Hb0 := hide (Bx.self (w := w) (cs := #[.slice An g.names.length cn, .slice At g.terms.length ct, .slice Ar g.rules.length cr]) (T := 25))
  have HC1 := hide (valid14_any ⟨An, cn, At, ct, Ar, cr⟩ g _ (HG.out.bx Hb0.out) hsm)
  dsimp only at HC1
  by_cases hv : VG g
  · rw [bool_true hv] at HC1
    have n1 := hv.n1; have n2 := hv.sy; have n3 := hv.rl
    have HV := hide hv
    have HC2 : Hid (∀ W, Bx w #[.slice An g.names.length cn, .slice At g.terms.length ct, .slice Ar g.rules.length cr] 25 W → Calls Try.prog 59 #[.agg #[.slice An g.names.length cn, .slice At g.terms.length ct, .slice Ar g.rules.length cr]] W fun e w' => (∃ b, W.heap.size ≤ b ∧ b < w'.heap.size ∧ e = .returned (.slice (some ⟨b, 0, none⟩) g.names.length g.names.length) ∧ BB w' b (prodN g (g.names.length + 1))) ∧ Below W.heap.size W w') :=
      fun W hb => productive15_any ⟨An, cn, At, ct, Ar, cr⟩ g W (HG.out.bx hb) HV.out
    have HC3 : Hid (∀ W, Bx w #[.slice An g.names.length cn, .slice At g.terms.length ct, .slice Ar g.rules.length cr] 25 W → Calls Try.prog 60 #[.agg #[.slice An g.names.length cn, .slice At g.terms.length ct, .slice Ar g.rules.length cr]] W fun e w' => (∃ b, W.heap.size ≤ b ∧ b < w'.heap.size ∧ e = .returned (.slice (some ⟨b, 0, none⟩) g.names.length g.names.length) ∧ BB w' b (reachN g (g.names.length + 1))) ∧ Below W.heap.size W w') :=
      fun W hb => reached15_any ⟨An, cn, At, ct, Ar, cr⟩ g W (HG.out.bx hb) HV.out
    clear hv
    go_enter Try.func21, Try.ntmps21
    go_wp2_with (first
      | (go_at_call 17; refine HC1.out.mono ?_; rintro e W1 ⟨rfl, hb1⟩; have Hb1 := hide (Hb0.out.call hb1); have cG1 := Hb1.out.cell; clear hb1 HC1)
      | (go_at_call 59; refine (HC2.out _ Hb1.out).mono ?_; rintro e W2 ⟨⟨pb, hp1, hp2, rfl, hPB⟩, hb2⟩; have Hb2 := hide (Hb1.out.call hb2); have cG2 := Hb2.out.cell; clear hb2 HC2))
    have HPB := hide hPB
    clear hPB cG1 Hb1
    go_loop [4] (fun i => ∃ k : Nat, k ≤ g.names.length ∧ i = .int .i64 k ∧ Hid (∀ a, a < k → (prodN g (g.names.length + 1)).getD a false = true)) (fun i => g.names.length - (intOf i).toNat)
    case atStart => exact ⟨0, by omega, rfl, fun _ h => absurd h (by omega)⟩
    case round =>
      obtain ⟨i, hi, rfl, hall⟩ := hrel
      by_cases hlt : i < g.names.length
      · have e1 := HPB.out.at_ i (by rw [prodN_len]; exact hlt)
        cases hz : (prodN g (g.names.length + 1)).getD i false
        · rw [hz] at e1
          have hnw := hide (show ¬ WM g from fun h => by rw [h.pr i hlt] at hz; cases hz)
          clear hz
          go_wp2_with fail
          go_ret
          exact Hno.out 18 _ Hb2.out (by decide) hnw.out
        · rw [hz] at e1
          have Hz := hide hz
          clear hz
          go_wp2_with fail
          go_round
          case rel =>
            refine ⟨i + 1, by omega, by go_num, fun a ha => ?_⟩
            by_cases e : a = i
            · subst e; exact Hz.out
            · exact hall.out a (by omega)
          case measure => simp [intOf]; omega
      · obtain rfl : i = g.names.length := by omega
        go_wp2_with (go_at_call 60; refine (HC3.out _ Hb2.out).mono ?_; rintro e W3 ⟨⟨rb, hr1, hr2, rfl, hRB⟩, hb3⟩; have Hb3 := hide (Hb2.out.call hb3); have cG3 := Hb3.out.cell; clear hb3 HC3)
        have HRB := hide hRB
        clear hRB cG2 HPB
        go_loop [6] (fun i => ∃ k : Nat, k ≤ g.names.length ∧ i = .int .i64 k ∧ Hid (∀ a, a < k → (reachN g (g.names.length + 1)).getD a false = true)) (fun i => g.names.length - (intOf i).toNat)
        case atStart => exact ⟨0, by omega, rfl, fun _ h => absurd h (by omega)⟩
        case round =>
          obtain ⟨i, hi, rfl, hall2⟩ := hrel
          by_cases hlt : i < g.names.length
          · have e1 := HRB.out.at_ i (by rw [reachN_len]; exact hlt)
            cases hz : (reachN g (g.names.length + 1)).getD i false
            · rw [hz] at e1
              have hnw := hide (show ¬ WM g from fun h => by rw [h.re i hlt] at hz; cases hz)
              clear hz
              go_wp2_with fail
              go_ret
              exact Hno.out 17 _ Hb3.out (by decide) hnw.out
            · rw [hz] at e1
              have Hz := hide hz
              clear hz
              go_wp2_with fail
              go_round
              case rel =>
                refine ⟨i + 1, by omega, by go_num, fun a ha => ?_⟩
                by_cases e : a = i
                · subst e; exact Hz.out
                · exact hall2.out a (by omega)
              case measure => simp [intOf]; omega
          · obtain rfl : i = g.names.length := by omega
            go_wp2_with fail
            clear cG3
            go_loopw [7] (fun i V => ∃ W, W = V ∧ Bx w #[.slice An g.names.length cn, .slice At g.terms.length ct, .slice Ar g.rules.length cr] 25 W ∧ BB W rb (reachN g (g.names.length + 1)) ∧ ∃ k : Nat, k ≤ g.terms.length ∧ i = .int .i64 k ∧ Hid (∀ a, a < k → UsedP g (reachN g (g.names.length + 1)) a)) (fun i _ => g.terms.length - (intOf i).toNat)
            case atStart => exact ⟨_, rfl, Hb3.out, HRB.out, 0, by omega, rfl, fun _ h => absurd h (by omega)⟩
            case round =>
              clear Hb3 HRB Hb2
              obtain ⟨W, rfl, hbx, hRB, t, ht1, rfl, hus⟩ := hrel
              have cG := hbx.cell
              by_cases hlt : t < g.terms.length
              · have HC4 := hide (used15_any ⟨An, cn, At, ct, Ar, cr⟩ g W (HG.out.bx hbx) HV.out rb _ hRB (reachN_len _ _) t hlt)
                dsimp only at HC4
                have Hb := hide hbx
                have HRB := hide hRB
                clear hbx hRB
                by_cases hu : UsedP g (reachN g (g.names.length + 1)) t
                · rw [bool_true hu] at HC4
                  have Hu := hide hu
                  clear hu
                  go_wp2_with (go_at_call 61; refine HC4.out.mono ?_; rintro e W4 ⟨rfl, hb4⟩)
                  go_roundw
                  case rel =>
                    refine ⟨_, rfl, Hb.out.call hb4, HRB.out.below hb4 HRB.out.lt, t + 1, by omega, by go_num, fun a ha => ?_⟩
                    by_cases e : a = t
                    · subst e; exact Hu.out
                    · exact hus.out a (by omega)
                  case measure => simp [intOf]; omega
                · rw [bool_false hu] at HC4
                  have hnw := hide (show ¬ WM g from fun h => hu (h.us t hlt))
                  clear hu
                  go_wp2_with (go_at_call 61; refine HC4.out.mono ?_; rintro e W4 ⟨rfl, hb4⟩)
                  go_ret
                  exact Hno.out 17 _ (Hb.out.call hb4) (by decide) hnw.out
              · obtain rfl : t = g.terms.length := by omega
                go_wp2_with fail
                go_ret
                exact ⟨⟨0, rfl, fun _ => ⟨HV.out, hall.out, hall2.out, hus.out⟩, fun _ => rfl⟩, hbx.below⟩
  · rw [bool_false hv] at HC1
    have hnw := hide (show ¬ WM g from fun h => hv h.vg)
    clear hv
    go_enter Try.func21, Try.ntmps21
    go_wp2_with (go_at_call 17; refine HC1.out.mono ?_; rintro e W1 ⟨rfl, hb1⟩; have Hb1 := hide (Hb0.out.call hb1); clear hb1 HC1)
    go_ret
    exact Hno.out 1 _ Hb1.out (by decide) hnw.out
end Go.Proofs.Ythpjjlmgdalpaaa
