/- gram.Valid. -/
import Derived.Test.YthpjjlmgdalpaaaB10
namespace Go.Proofs.Ythpjjlmgdalpaaa
open Go.RowKit

theorem GAt.bx {w W : World} {v : GV} {g : G} {cs : Array Value} {T : TypeId} (h : GAt w w.heap.size v g) (hb : Bx w cs T W) : GAt W W.heap.size v g := (h.below hb.below).more (Nat.le_of_lt hb.lt)
theorem GAt.call {w W : World} {v : GV} {g : G} (h : GAt w w.heap.size v g) (hb : Below w.heap.size w W) : GAt W W.heap.size v g := (h.below hb).more hb.size

set_option maxHeartbeats 4000000 in
set_option maxRecDepth 8000 in
theorem valid_any (v : GV) (g : G) (w : World) (hg : GAt w w.heap.size v g) (hsm : g.names.length ≤ 1000000 ∧ g.terms.length ≤ 1000000) : Calls Try.prog 55 #[.agg #[.slice v.An g.names.length v.cn, .slice v.At g.terms.length v.ct, .slice v.Ar g.rules.length v.cr]] w fun e w' => e = .returned (.bool (bool (VG g))) ∧ Below w.heap.size w w' := by
  have egn := enters_of Try.func94 (by kernel_rfl) rfl
  have egt := enters_of Try.func95 (by kernel_rfl) rfl
  have HG := hide hg
  obtain ⟨An, cn, At, ct, Ar, cr⟩ := v
  obtain ⟨gn, gt, gr, hn, ht, hr, sn, st, sr⟩ := hg
  dsimp only at gn gt gr hn ht hr
  have hno : ∀ W, Bx w #[.slice An g.names.length cn, .slice At g.terms.length ct, .slice Ar g.rules.length cr] 25 W → ¬ VG g → (Ending.returned (.bool false) = .returned (.bool (bool (VG g))) ∧ Below w.heap.size w W) := fun W h1 h2 => ⟨ret_b (bool_false h2).symm, h1.below⟩
  have Hno := hide hno; have Hr := hide gr
  have Hsr := hide sr
  have Hdn : Hid (∀ W, Bx w #[.slice An g.names.length cn, .slice At g.terms.length ct, .slice Ar g.rules.length cr] 25 W → Calls Try.prog 93 #[.slice An g.names.length cn, .func (.func 94) #[] #[]] W fun e w' => e = .returned (.bool (bool ((∀ s ∈ g.names, nameB s.data.toList = true) ∧ g.names.Nodup))) ∧ Below W.heap.size W w') :=
    fun W hb => distinct_any 94 egn (fun s => nameB s.data.toList) (fun s W hs => isname_any s W hs) An cn g.names W (HG.out.bx hb).n hn.1 hn.2 sn
  have Hdt : Hid (∀ W, Bx w #[.slice An g.names.length cn, .slice At g.terms.length ct, .slice Ar g.rules.length cr] 25 W → Calls Try.prog 93 #[.slice At g.terms.length ct, .func (.func 95) #[] #[]] W fun e w' => e = .returned (.bool (bool ((∀ s ∈ g.terms, termB s.data.toList = true) ∧ g.terms.Nodup))) ∧ Below W.heap.size W w') :=
    fun W hb => distinct_any 95 egt (fun s => termB s.data.toList) (fun s W hs => isterm_any s W hs) At ct g.terms W (HG.out.bx hb).t ht.1 ht.2 st
  clear egn egt hno gn gt gr sn st sr
  have w1 : IntKind.i64.wrap ((g.names.length : Int) + g.terms.length) = g.names.length + g.terms.length := IntWalk.i64_in _ (by omega)
  have Hb0 := hide (Bx.self (w := w) (cs := #[.slice An g.names.length cn, .slice At g.terms.length ct, .slice Ar g.rules.length cr]) (T := 25))
  by_cases hf : (1 ≤ g.names.length ∧ g.names.length + g.terms.length ≤ 256) ∧ g.rules.length ≤ 4096
  · obtain ⟨⟨h1, h2⟩, h3⟩ := hf
    have e0 : ((g.names.length : Int) == 0) = false := by rw [beq_eq_false_iff_ne]; omega
    have HdN := hide (Hdn.out _ Hb0.out)
    by_cases hN : (∀ s ∈ g.names, nameB s.data.toList = true) ∧ g.names.Nodup
    · rw [bool_true hN] at HdN
      by_cases hT : (∀ s ∈ g.terms, termB s.data.toList = true) ∧ g.terms.Nodup
      · rw [bool_true hT] at Hdt
        have HNT := hide (And.intro hN hT)
        clear hN hT Hdn
        go_enter Try.func55, Try.ntmps55
        go_wp2_with (first
          | (go_at_call 93; refine HdN.out.mono ?_; rintro e W1 ⟨rfl, hb1⟩; have Hb1 := hide (Hb0.out.call hb1); have cG := Hb1.out.cell; clear hb1 HdN)
          | (go_at_call 93; refine (Hdt.out _ Hb1.out).mono ?_; rintro e W2 ⟨rfl, hb2⟩; have Hb2 := hide (Hb1.out.call hb2); have cG := Hb2.out.cell; clear hb2 Hdt))
        all_goals first | (exfalso; omega) | skip
        go_loopw [39] (fun i V => ∃ W, W = V ∧ Bx w #[.slice An g.names.length cn, .slice At g.terms.length ct, .slice Ar g.rules.length cr] 25 W ∧ ∃ k : Nat, k ≤ g.rules.length ∧ i = .int .i64 k ∧ Hid (∀ a (h : a < g.rules.length), a < k → FitsR g g.rules[a])) (fun i _ => g.rules.length - (intOf i).toNat)
        case atStart => exact ⟨_, rfl, Hb2.out, 0, Nat.zero_le _, rfl, fun _ _ h => absurd h (by omega)⟩
        case round =>
          clear cG
          obtain ⟨W, rfl, hbx, i, hi, rfl, hall⟩ := hrel
          have cG := hbx.cell
          have hsz := hbx.lt
          by_cases hlt : i < g.rules.length
          · obtain ⟨b, off, rfl, hb, C, c, k1, k2, k3, k4⟩ := Hr.out.at_ hlt
            have c1 := (hbx.below.cell hb).trans k1
            have c2 := (hbx.below.cell hb).trans k2
            have Hb := hide (hbx.alloc (.cells #[.int .i64 g.rules[i].left, .slice C g.rules[i].right.length c] 35))
            have Hc := hide (fits_any ⟨An, cn, At, ct, some ⟨b, off, none⟩, cr⟩ g g.rules[i] C c (W.alloc (.cells #[.int .i64 g.rules[i].left, .slice C g.rules[i].right.length c] 35)) ((k4.below Hb.out.below).more Hb.out.below.size) k3 (Hsr.out _ (List.getElem_mem hlt)) hsm)
            dsimp only at Hc
            clear hbx k1 k2 k3 k4
            cases hfit : fitsB g g.rules[i]
            · have hno := hide (show ¬ VG g from fun h => by rw [(fitsB_iff _ _).2 (h.ru _ (List.getElem_mem hlt))] at hfit; cases hfit)
              rw [hfit] at Hc
              clear hfit
              go_wp2_with (go_at_call 96; refine Hc.out.mono ?_; rintro e W3 ⟨rfl, hb3⟩)
              go_ret
              exact Hno.out _ (Hb.out.call hb3) hno.out
            · have Hfit := hide ((fitsB_iff _ _).1 hfit)
              rw [hfit] at Hc
              clear hfit
              go_wp2_with (go_at_call 96; refine Hc.out.mono ?_; rintro e W3 ⟨rfl, hb3⟩)
              go_roundw
              case rel =>
                refine ⟨_, rfl, Hb.out.call hb3, i + 1, by omega, by go_num, fun a ha hai => ?_⟩
                by_cases e : a = i
                · subst e; exact Hfit.out
                · exact hall.out a ha (by omega)
              case measure => simp [intOf]; omega
          · obtain rfl : i = g.rules.length := by omega
            have HR : Hid (∀ r ∈ g.rules, FitsR g r) := by
              intro r hr
              obtain ⟨q, hq, rfl⟩ := List.mem_iff_getElem.1 hr
              exact hall.out q hq hq
            have Hb := hide hbx
            clear hbx hall hi hlt Hb2
            go_wp2_with fail
            go_loopw [51] (fun i V => ∃ W, W = V ∧ Bx w #[.slice An g.names.length cn, .slice At g.terms.length ct, .slice Ar g.rules.length cr] 25 W ∧ ∃ k : Nat, k ≤ g.names.length ∧ i = .int .i64 k ∧ Hid (∀ a, a < k → ∃ r ∈ g.rules, r.left = (a : Int))) (fun i _ => g.names.length - (intOf i).toNat)
            case atStart => exact ⟨_, rfl, Hb.out, 0, Nat.zero_le _, rfl, fun _ h => absurd h (by omega)⟩
            case round =>
              clear cG hsz Hb
              obtain ⟨W, rfl, hbx, i, hi, rfl, hall⟩ := hrel
              have cG := hbx.cell
              have hsz := hbx.lt
              by_cases hlt : i < g.names.length
              · have Hc := hide (of_any ⟨An, cn, At, ct, Ar, cr⟩ g i W (HG.out.bx hbx) (by omega))
                dsimp only at Hc
                have Hb := hide hbx
                clear hbx
                by_cases hl : (ofN g.rules i g.rules.length).length = 0
                · have hno := hide (show ¬ VG g from fun h => by
                    obtain ⟨r, hr1, hr2⟩ := h.has i hlt
                    obtain ⟨q, hq, rfl⟩ := List.mem_iff_getElem.1 hr1
                    have := (ofN_mem g.rules i q).2 ⟨q, hq, rfl, hr2⟩
                    rw [List.eq_nil_of_length_eq_zero hl] at this
                    cases this)
                  go_wp2_with (go_at_call 97; refine Hc.out.mono ?_; rintro e W3 ⟨x, rfl, ho, hb3⟩; obtain ⟨A3, c3, rfl, -⟩ := ho.form; clear ho; rw [show (ints (ofN g.rules i g.rules.length)).length = 0 by rw [List.length_map]; exact hl])
                  go_ret
                  exact Hno.out _ (Hb.out.call hb3) hno.out
                · have hex : Hid (∃ r ∈ g.rules, r.left = (i : Int)) := by
                    rcases hq : ofN g.rules i g.rules.length with _ | ⟨y, ys⟩
                    · rw [hq] at hl; exact absurd rfl hl
                    · obtain ⟨q, hq2, _, h4⟩ := (ofN_mem g.rules i y).1 (by rw [hq]; exact .head _)
                      exact ⟨_, List.getElem_mem hq2, h4⟩
                  obtain ⟨n, hn0⟩ : ∃ n, n = (ints (ofN g.rules i g.rules.length)).length := ⟨_, rfl⟩
                  have hn1 : 0 < n := by rw [hn0, List.length_map]; omega
                  go_wp2_with (go_at_call 97; refine Hc.out.mono ?_; rintro e W3 ⟨x, rfl, ho, hb3⟩; obtain ⟨A3, c3, rfl, -⟩ := ho.form; clear ho; rw [← hn0])
                  all_goals first | (exfalso; omega) | skip
                  go_roundw
                  case rel =>
                    refine ⟨_, rfl, Hb.out.call hb3, i + 1, by omega, by go_num, fun a hai => ?_⟩
                    by_cases e : a = i
                    · subst e; exact hex.out
                    · exact hall.out a (by omega)
                  case measure => simp [intOf]; omega
              · obtain rfl : i = g.names.length := by omega
                have Hc := hide (twice_any Ar cr g.rules W (HG.out.bx hbx).r hr.1 hr.2 Hsr.out)
                have Hb := hide hbx
                clear hbx
                go_wp2_with (go_at_call 98; refine Hc.out.mono ?_; rintro e W3 ⟨rfl, hb3⟩)
                go_ret
                refine ⟨ret_b ?_, (Hb.out.call hb3).below⟩
                rw [Bool.eq_iff_iff, bool_iff]
                cases hb : bool (¬ g.rules.Nodup)
                · have hnd : g.rules.Nodup := Classical.not_not.1 fun h => by rw [bool_true h] at hb; cases hb
                  obtain ⟨⟨n1, n2⟩, t1, t2⟩ := HNT.out
                  exact ⟨fun _ => ⟨h1, h2, h3, n1, n2, t1, t2, HR.out, fun i hi => hall.out i hi, hnd⟩, fun _ => rfl⟩
                · exact ⟨fun h => absurd h Bool.false_ne_true, fun h => absurd h.tw ((bool_iff _).1 hb)⟩
      · rw [bool_false hT] at Hdt
        have hno := hide (show ¬ VG g from fun h => hT ⟨h.tn, h.td⟩)
        clear hN hT Hdn
        go_enter Try.func55, Try.ntmps55
        go_wp2_with (first
          | (go_at_call 93; refine HdN.out.mono ?_; rintro e W1 ⟨rfl, hb1⟩; have Hb1 := hide (Hb0.out.call hb1); have cG := Hb1.out.cell; clear hb1 HdN)
          | (go_at_call 93; refine (Hdt.out _ Hb1.out).mono ?_; rintro e W2 ⟨rfl, hb2⟩; have Hb2 := hide (Hb1.out.call hb2); have cG := Hb2.out.cell; clear hb2 Hdt))
        all_goals first | (exfalso; omega) | skip
        go_ret
        exact Hno.out _ Hb2.out hno.out
    · rw [bool_false hN] at HdN
      have hno := hide (show ¬ VG g from fun h => hN ⟨h.nn, h.nd⟩)
      clear hN
      go_enter Try.func55, Try.ntmps55
      go_wp2_with (go_at_call 93; refine HdN.out.mono ?_; rintro e W1 ⟨rfl, hb1⟩)
      all_goals first | (exfalso; omega) | skip
      go_ret
      exact Hno.out _ (Hb0.out.call hb1) hno.out
  · have hno := hide (show ¬ VG g from fun h => hf ⟨⟨h.n1, h.sy⟩, h.rl⟩)
    go_enter Try.func55, Try.ntmps55
    cases e0 : ((g.names.length : Int) == 0)
    all_goals
      have e1 := e0
      first | rw [beq_eq_false_iff_ne] at e1 | rw [beq_iff_eq] at e1
      go_wp2_with fail
    all_goals first
      | (exfalso; omega)
      | (go_ret
         exact Hno.out _ Hb0.out hno.out)
end Go.Proofs.Ythpjjlmgdalpaaa
