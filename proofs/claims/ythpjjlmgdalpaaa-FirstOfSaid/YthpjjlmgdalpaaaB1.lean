/- Few, Find, SameRight: the references' small loops. -/
import Derived.Test.YthpjjlmgdalpaaaK
import Derived.Test.YthpjjlmgdalpaaaRows
namespace Go.Proofs.Ythpjjlmgdalpaaa
open Go.RowKit

def fewB (g : G) : Bool :=
  decide (g.names.length ≤ 12) && (decide (g.terms.length ≤ 12) && (decide (g.rules.length ≤ 40) && (g.rules.all (fun r => decide (r.right.length ≤ 20)) && (g.names.all (fun s => decide (s.size ≤ 40)) && g.terms.all (fun s => decide (s.size ≤ 40))))))

theorem all_take_succ {α : Type} (l : List α) (p : α → Bool) (k : Nat) (h : k < l.length) : (l.take (k + 1)).all p = ((l.take k).all p && p l[k]) := by
  rw [List.take_succ_eq_append_getElem h, List.all_append]; simp
theorem all_no {α : Type} (l : List α) (p : α → Bool) (k : Nat) (h : k < l.length) (hp : p l[k] = false) : l.all p = false := by
  rw [List.all_eq_false]; exact ⟨l[k], List.getElem_mem _, by simp [hp]⟩

def FewPost (g : G) (w : World) (e : Ending) (w' : World) : Prop := e = .returned (.int .i64 (if fewB g then 1 else 0)) ∧ Below w.heap.size w w'
theorem few_no {g : G} {w w' : World} (h : fewB g = false) (hb : Below w.heap.size w w') : FewPost g w (.returned (.int .i64 0)) w' := ⟨by rw [h]; rfl, hb⟩

set_option maxHeartbeats 1000000 in
theorem few_any (v : GV) (g : G) (w : World) (hg : GAt w w.heap.size v g) : Calls Try.prog 15 #[.agg #[.slice v.An g.names.length v.cn, .slice v.At g.terms.length v.ct, .slice v.Ar g.rules.length v.cr]] w (FewPost g w) := by
  obtain ⟨An, cn, At, ct, Ar, cr⟩ := v
  have b0 := (Below.refl w.heap.size w).alloc (Nat.le_refl _) (.cells #[.slice An g.names.length cn, .slice At g.terms.length ct, .slice Ar g.rules.length cr] 25)
  obtain ⟨gn, gt, gr, hn, ht, hr, sn, st, sr⟩ := hg
  dsimp only at gn gt gr hn ht hr
  by_cases hf : (g.names.length ≤ 12 ∧ g.terms.length ≤ 12) ∧ g.rules.length ≤ 40
  · obtain ⟨⟨h1, h2⟩, h3⟩ := hf
    have Hn := hide gn; have Ht := hide gt; have Hr := hide gr
    have Hsn := hide sn; have Hst := hide st; have Hsr := hide sr
    clear gn gt gr sn st sr
    go_enter Try.func15, Try.ntmps15
    go_wp2
    all_goals first | (exfalso; omega) | skip
    go_loop [3] (fun i => ∃ k : Nat, k ≤ g.rules.length ∧ i = .int .i64 k ∧ Hid ((g.rules.take k).all (fun r => decide (r.right.length ≤ 20)) = true)) (fun i => g.rules.length - (intOf i).toNat)
    case atStart => exact ⟨0, Nat.zero_le _, rfl, rfl⟩
    case round =>
      obtain ⟨k, hk, rfl, hall⟩ := hrel
      by_cases hlt : k < g.rules.length
      · obtain ⟨b, off, rfl, hb, C, c, c1, c2, c3, _⟩ := Hr.out.at_ hlt
        have hsr := Hsr.out _ (List.getElem_mem hlt)
        go_wp2
        · go_ret
          exact few_no (by unfold fewB; rw [all_no g.rules _ k hlt (by simp; omega)]; simp) b0
        · go_round
          case rel => exact ⟨k + 1, by omega, by go_num, by rw [Hid, all_take_succ _ _ k hlt, hall.out]; simp; omega⟩
          case measure => simp [intOf]; omega
      · have hR : Hid (g.rules.all (fun r => decide (r.right.length ≤ 20)) = true) := by
          have := hall.out
          rwa [List.take_of_length_le (by omega)] at this
        go_wp2
        go_loop [4] (fun i => ∃ k : Nat, k ≤ g.names.length ∧ i = .int .i64 k ∧ Hid ((g.names.take k).all (fun s => decide (s.size ≤ 40)) = true)) (fun i => g.names.length - (intOf i).toNat)
        case atStart => exact ⟨0, Nat.zero_le _, rfl, rfl⟩
        case round =>
          obtain ⟨j, hj, rfl, hallN⟩ := hrel
          by_cases hlt2 : j < g.names.length
          · obtain ⟨b, off, rfl, hb, hc⟩ := Hn.out.at_ (k := j) (by simpa using hlt2)
            have c1 := hc j _ (strs_at g.names j hlt2)
            have hsn := Hsn.out _ (List.getElem_mem hlt2)
            clear hc
            go_wp2
            · go_ret
              exact few_no (by unfold fewB; rw [all_no g.names _ j hlt2 (by simp; omega)]; simp) b0
            · go_round
              case rel => exact ⟨j + 1, by omega, by go_num, by rw [Hid, all_take_succ _ _ j hlt2, hallN.out]; simp; omega⟩
              case measure => simp [intOf]; omega
          · have hN : Hid (g.names.all (fun s => decide (s.size ≤ 40)) = true) := by
              have := hallN.out
              rwa [List.take_of_length_le (by omega)] at this
            go_wp2
            go_loop [5] (fun i => ∃ k : Nat, k ≤ g.terms.length ∧ i = .int .i64 k ∧ Hid ((g.terms.take k).all (fun s => decide (s.size ≤ 40)) = true)) (fun i => g.terms.length - (intOf i).toNat)
            case atStart => exact ⟨0, Nat.zero_le _, rfl, rfl⟩
            case round =>
              obtain ⟨i, hi, rfl, hallT⟩ := hrel
              by_cases hlt3 : i < g.terms.length
              · obtain ⟨b, off, rfl, hb, hc⟩ := Ht.out.at_ (k := i) (by simpa using hlt3)
                have c1 := hc i _ (strs_at g.terms i hlt3)
                have hst := Hst.out _ (List.getElem_mem hlt3)
                clear hc
                go_wp2
                · go_ret
                  exact few_no (by unfold fewB; rw [all_no g.terms _ i hlt3 (by simp; omega)]; simp) b0
                · go_round
                  case rel => exact ⟨i + 1, by omega, by go_num, by rw [Hid, all_take_succ _ _ i hlt3, hallT.out]; simp; omega⟩
                  case measure => simp [intOf]; omega
              · have hT : Hid (g.terms.all (fun s => decide (s.size ≤ 40)) = true) := by
                  have := hallT.out
                  rwa [List.take_of_length_le (by omega)] at this
                go_wp2
                go_ret
                refine ⟨?_, b0⟩
                have : fewB g = true := by unfold fewB; rw [hR.out, hN.out, hT.out]; simp; omega
                rw [this]; rfl
  · go_enter Try.func15, Try.ntmps15
    go_wp2
    all_goals first
      | (exfalso; omega)
      | (go_ret
         exact few_no (by unfold fewB; simp; omega) b0)
end Go.Proofs.Ythpjjlmgdalpaaa
