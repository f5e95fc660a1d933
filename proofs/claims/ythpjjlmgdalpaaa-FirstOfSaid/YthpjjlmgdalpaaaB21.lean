/- well.Check. -/
import Derived.Test.YthpjjlmgdalpaaaB20
namespace Go.Proofs.Ythpjjlmgdalpaaa
open Go.RowKit

theorem no_false (l : List Bool) (n : Nat) (h : l.length = n) : false ∉ l ↔ ∀ i, i < n → l.getD i false = true := by
  constructor
  · intro hf i hi
    have hi' : i < l.length := by omega
    have : l.getD i false = l[i] := by simp [List.getD, hi']
    rw [this]
    cases hb : l[i]
    · exact absurd (hb ▸ List.getElem_mem hi') hf
    · rfl
  · intro h2 hf
    obtain ⟨i, hi, e⟩ := List.mem_iff_getElem.1 hf
    have := h2 i (by omega)
    have e2 : l.getD i false = l[i] := by simp [List.getD, hi]
    rw [e2, e] at this
    cases this
theorem BB.sl {w : World} {b : Nat} {l : List Bool} (h : BB w b l) : SlAt w w.heap.size (some ⟨b, 0, none⟩) (bools l) :=
  .inr ⟨_, _, rfl, h.lt, fun j u hu => by rw [Nat.zero_add, h.cell j]; simpa using hu⟩

set_option maxHeartbeats 1000000 in
set_option maxRecDepth 8000 in
theorem check_any (v : GV) (g : G) (w : World) (hg : GAt w w.heap.size v g) (hsm : g.names.length ≤ 1000000 ∧ g.terms.length ≤ 1000000) :
    Calls Try.prog 62 #[.agg #[.slice v.An g.names.length v.cn, .slice v.At g.terms.length v.ct, .slice v.Ar g.rules.length v.cr]] w fun e w' => (∃ n : Int, e = .returned (.int .i64 n) ∧ (n = 0 ↔ WM g)) ∧ Below w.heap.size w w' := by
  have HG := hide hg
  have hno : ∀ (n : Int) (W : World), Bx w #[.slice v.An g.names.length v.cn, .slice v.At g.terms.length v.ct, .slice v.Ar g.rules.length v.cr] 25 W → n ≠ 0 → ¬ WM g → ((∃ m : Int, Ending.returned (.int .i64 n) = .returned (.int .i64 m) ∧ (m = 0 ↔ WM g)) ∧ Below w.heap.size w W) :=
    fun n W h1 h2 h3 => ⟨⟨n, rfl, fun h => absurd h h2, fun h => absurd h h3⟩, h1.below⟩
  have Hno := hide hno
  have Hb0 := hide (Bx.self (w := w) (cs := #[.slice v.An g.names.length v.cn, .slice v.At g.terms.length v.ct, .slice v.Ar g.rules.length v.cr]) (T := 25))
  have HC1 := hide (valid_any v g _ (HG.out.bx Hb0.out) hsm)
  clear hg hno
  by_cases hv : VG g
  · rw [bool_true hv] at HC1
    have HV := hide hv
    have hn : g.names.length ≤ 1000000 := hsm.1
    have HC2 : Hid (∀ W, Bx w #[.slice v.An g.names.length v.cn, .slice v.At g.terms.length v.ct, .slice v.Ar g.rules.length v.cr] 25 W → Calls Try.prog 103 #[.agg #[.slice v.An g.names.length v.cn, .slice v.At g.terms.length v.ct, .slice v.Ar g.rules.length v.cr]] W fun e w' => (∃ x, e = .returned x ∧ Own w' W.heap.size 4 x (bools (prodN g (g.names.length + 1)))) ∧ Below W.heap.size W w') :=
      fun W hb => productive_any v g W (HG.out.bx hb) HV.out
    have HC3 : Hid (∀ W, Bx w #[.slice v.An g.names.length v.cn, .slice v.At g.terms.length v.ct, .slice v.Ar g.rules.length v.cr] 25 W → Calls Try.prog 104 #[.agg #[.slice v.An g.names.length v.cn, .slice v.At g.terms.length v.ct, .slice v.Ar g.rules.length v.cr]] W fun e w' => (∃ b, e = .returned (.slice (some ⟨b, 0, none⟩) g.names.length g.names.length) ∧ BB w' b (reachN g (g.names.length + 1))) ∧ Below W.heap.size W w') :=
      fun W hb => reached_any v g W (HG.out.bx hb) HV.out
    have HC4 : Hid (∀ W, Bx w #[.slice v.An g.names.length v.cn, .slice v.At g.terms.length v.ct, .slice v.Ar g.rules.length v.cr] 25 W → Calls Try.prog 105 #[.agg #[.slice v.An g.names.length v.cn, .slice v.At g.terms.length v.ct, .slice v.Ar g.rules.length v.cr]] W fun e w' => e = .returned (.bool (bool (∀ t : Nat, t < g.terms.length → OccN g.rules g.rules.length t))) ∧ Below W.heap.size W w') :=
      fun W hb => terms_any v g W (HG.out.bx hb) HV.out
    have HD1 : Hid (∀ (W : World) (A : Option Addr) (c : Nat), SlAt W W.heap.size A (bools (prodN g (g.names.length + 1))) → g.names.length ≤ c → Calls Try.prog 102 #[.slice A g.names.length c, .bool false] W fun e w' => e = .returned (.bool (decide (false ∈ prodN g (g.names.length + 1)))) ∧ W = w') := by
      intro W A c hA hc
      have := contains_false A c _ W hA (by rw [prodN_len]; exact hc) (by rw [prodN_len]; omega)
      rw [prodN_len] at this
      exact this
    have HD2 : Hid (∀ (W : World) (b : Nat), BB W b (reachN g (g.names.length + 1)) → Calls Try.prog 102 #[.slice (some ⟨b, 0, none⟩) g.names.length g.names.length, .bool false] W fun e w' => e = .returned (.bool (decide (false ∈ reachN g (g.names.length + 1)))) ∧ W = w') := by
      intro W b hB
      have := contains_false (some ⟨b, 0, none⟩) g.names.length _ W hB.sl (by rw [reachN_len]; omega) (by rw [reachN_len]; omega)
      rw [reachN_len] at this
      exact this
    have Hp1 : Hid (false ∉ prodN g (g.names.length + 1) ↔ ∀ i, i < g.names.length → (prodN g (g.names.length + 1)).getD i false = true) := no_false _ _ (prodN_len _ _)
    have Hp2 : Hid (false ∉ reachN g (g.names.length + 1) ↔ ∀ i, i < g.names.length → (reachN g (g.names.length + 1)).getD i false = true) := no_false _ _ (reachN_len _ _)
    clear hv hsm HG
    obtain ⟨An, cn, At, ct, Ar, cr⟩ := v
    dsimp only at Hno Hb0 HC1 HC2 HC3 HC4
    by_cases hp : false ∈ prodN g (g.names.length + 1)
    · have hd : decide (false ∈ prodN g (g.names.length + 1)) = true := decide_eq_true hp
      rw [hd] at HD1
      have hnw := hide (show ¬ WM g from fun h => Hp1.out.2 h.pr hp)
      clear hp hd
      go_enter Try.func62, Try.ntmps62
      go_wp2_with (first
        | (go_at_call 55; refine HC1.out.mono ?_; rintro e W1 ⟨rfl, hb1⟩; have Hb1 := hide (Hb0.out.call hb1); have cG1 := Hb1.out.cell; clear hb1 HC1)
        | (go_at_call 103; refine (HC2.out _ Hb1.out).mono ?_; rintro e W2 ⟨⟨x, rfl, ho⟩, hb2⟩; have Hb2 := hide (Hb1.out.call hb2); obtain ⟨A2, c2, rfl, hl, -, hS, -⟩ := ho.form; rw [List.length_map, prodN_len] at hl ⊢; have HS := hide hS; have cG2 := Hb2.out.cell; clear hb2 HC2 ho hS)
        | (go_at_call 102; refine (HD1.out W2 A2 c2 HS.out hl).mono ?_; rintro e w' ⟨rfl, rfl⟩))
      go_ret
      exact Hno.out 18 _ Hb2.out (by decide) hnw.out
    · have hd : decide (false ∈ prodN g (g.names.length + 1)) = false := decide_eq_false hp
      rw [hd] at HD1
      have Hp := hide (Hp1.out.1 hp)
      clear hp hd
      by_cases hq : false ∈ reachN g (g.names.length + 1)
      · have hd : decide (false ∈ reachN g (g.names.length + 1)) = true := decide_eq_true hq
        rw [hd] at HD2
        have hnw := hide (show ¬ WM g from fun h => Hp2.out.2 h.re hq)
        clear hq hd
        go_enter Try.func62, Try.ntmps62
        go_wp2_with (first
          | (go_at_call 55; refine HC1.out.mono ?_; rintro e W1 ⟨rfl, hb1⟩; have Hb1 := hide (Hb0.out.call hb1); have cG1 := Hb1.out.cell; clear hb1 HC1)
          | (go_at_call 103; refine (HC2.out _ Hb1.out).mono ?_; rintro e W2 ⟨⟨x, rfl, ho⟩, hb2⟩; have Hb2 := hide (Hb1.out.call hb2); obtain ⟨A2, c2, rfl, hl, -, hS, -⟩ := ho.form; rw [List.length_map, prodN_len] at hl ⊢; have HS := hide hS; have cG2 := Hb2.out.cell; clear hb2 HC2 ho hS)
          | (go_at_call 104; refine (HC3.out _ Hb2.out).mono ?_; rintro e W3 ⟨⟨b3, rfl, hB3⟩, hb3⟩; have Hb3 := hide (Hb2.out.call hb3); have HB3 := hide hB3; have cG3 := Hb3.out.cell; clear hb3 HC3 hB3)
          | (go_at_call 102; refine (HD2.out W3 b3 HB3.out).mono ?_; rintro e w' ⟨rfl, rfl⟩)
          | (go_at_call 102; refine (HD1.out W2 A2 c2 HS.out hl).mono ?_; rintro e w' ⟨rfl, rfl⟩))
        go_ret
        exact Hno.out 17 _ Hb3.out (by decide) hnw.out
      · have hd : decide (false ∈ reachN g (g.names.length + 1)) = false := decide_eq_false hq
        rw [hd] at HD2
        have Hq := hide (Hp2.out.1 hq)
        clear hq hd
        have Hit : Hid ((∀ t : Nat, t < g.terms.length → OccN g.rules g.rules.length t) ↔ WM g) := by
          constructor
          · intro h
            refine ⟨HV.out, Hp.out, Hq.out, fun t ht => ?_⟩
            obtain ⟨a, ha, _, hm⟩ := h t ht
            have hf := HV.out.ru _ (List.getElem_mem ha)
            exact ⟨_, List.getElem_mem ha, Hq.out _ (by have := hf.1; have := hf.2.1; omega), hm⟩
          · intro h t ht
            obtain ⟨r, hr, _, hm⟩ := h.us t ht
            obtain ⟨a, ha, rfl⟩ := List.mem_iff_getElem.1 hr
            exact ⟨a, ha, ha, hm⟩
        by_cases hw : WM g
        · rw [bool_true (Hit.out.2 hw)] at HC4
          have Hw := hide hw
          clear hw
          go_enter Try.func62, Try.ntmps62
          go_wp2_with (first
            | (go_at_call 55; refine HC1.out.mono ?_; rintro e W1 ⟨rfl, hb1⟩; have Hb1 := hide (Hb0.out.call hb1); have cG1 := Hb1.out.cell; clear hb1 HC1)
            | (go_at_call 103; refine (HC2.out _ Hb1.out).mono ?_; rintro e W2 ⟨⟨x, rfl, ho⟩, hb2⟩; have Hb2 := hide (Hb1.out.call hb2); obtain ⟨A2, c2, rfl, hl, -, hS, -⟩ := ho.form; rw [List.length_map, prodN_len] at hl ⊢; have HS := hide hS; have cG2 := Hb2.out.cell; clear hb2 HC2 ho hS)
            | (go_at_call 104; refine (HC3.out _ Hb2.out).mono ?_; rintro e W3 ⟨⟨b3, rfl, hB3⟩, hb3⟩; have Hb3 := hide (Hb2.out.call hb3); have HB3 := hide hB3; have cG3 := Hb3.out.cell; clear hb3 HC3 hB3)
            | (go_at_call 105; refine (HC4.out _ Hb3.out).mono ?_; rintro e W4 ⟨rfl, hb4⟩; have Hb4 := hide (Hb3.out.call hb4); clear hb4 HC4)
            | (go_at_call 102; refine (HD2.out W3 b3 HB3.out).mono ?_; rintro e w' ⟨rfl, rfl⟩)
            | (go_at_call 102; refine (HD1.out W2 A2 c2 HS.out hl).mono ?_; rintro e w' ⟨rfl, rfl⟩))
          go_ret
          exact ⟨⟨0, rfl, fun _ => Hw.out, fun _ => rfl⟩, Hb4.out.below⟩
        · rw [bool_false (fun h => hw (Hit.out.1 h))] at HC4
          have hnw := hide hw
          clear hw
          go_enter Try.func62, Try.ntmps62
          go_wp2_with (first
            | (go_at_call 55; refine HC1.out.mono ?_; rintro e W1 ⟨rfl, hb1⟩; have Hb1 := hide (Hb0.out.call hb1); have cG1 := Hb1.out.cell; clear hb1 HC1)
            | (go_at_call 103; refine (HC2.out _ Hb1.out).mono ?_; rintro e W2 ⟨⟨x, rfl, ho⟩, hb2⟩; have Hb2 := hide (Hb1.out.call hb2); obtain ⟨A2, c2, rfl, hl, -, hS, -⟩ := ho.form; rw [List.length_map, prodN_len] at hl ⊢; have HS := hide hS; have cG2 := Hb2.out.cell; clear hb2 HC2 ho hS)
            | (go_at_call 104; refine (HC3.out _ Hb2.out).mono ?_; rintro e W3 ⟨⟨b3, rfl, hB3⟩, hb3⟩; have Hb3 := hide (Hb2.out.call hb3); have HB3 := hide hB3; have cG3 := Hb3.out.cell; clear hb3 HC3 hB3)
            | (go_at_call 105; refine (HC4.out _ Hb3.out).mono ?_; rintro e W4 ⟨rfl, hb4⟩; have Hb4 := hide (Hb3.out.call hb4); clear hb4 HC4)
            | (go_at_call 102; refine (HD2.out W3 b3 HB3.out).mono ?_; rintro e w' ⟨rfl, rfl⟩)
            | (go_at_call 102; refine (HD1.out W2 A2 c2 HS.out hl).mono ?_; rintro e w' ⟨rfl, rfl⟩))
          go_ret
          exact Hno.out 17 _ Hb4.out (by decide) hnw.out
  · rw [bool_false hv] at HC1
    have hnw := hide (show ¬ WM g from fun h => hv h.vg)
    clear hv
    obtain ⟨An, cn, At, ct, Ar, cr⟩ := v
    dsimp only at Hno Hb0 HC1
    go_enter Try.func62, Try.ntmps62
    go_wp2_with (go_at_call 55; refine HC1.out.mono ?_; rintro e W1 ⟨rfl, hb1⟩; have Hb1 := hide (Hb0.out.call hb1); clear hb1 HC1)
    go_ret
    exact Hno.out 1 _ Hb1.out (by decide) hnw.out
end Go.Proofs.Ythpjjlmgdalpaaa
