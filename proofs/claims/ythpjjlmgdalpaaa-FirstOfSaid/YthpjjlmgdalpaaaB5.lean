/- ref14.twice; what a valid grammar is. -/
import Derived.Test.YthpjjlmgdalpaaaB4
namespace Go.Proofs.Ythpjjlmgdalpaaa
open Go.RowKit

deriving instance DecidableEq for Rule
theorem RulesAt.at2 {w : World} {B : Nat} {A : Option Addr} {rs : List Rule} (h : RulesAt w B A rs) {k i : Nat} (hk : k < rs.length) (hi : i < rs.length) : ∃ b off, A = some ⟨b, off, none⟩ ∧ b < B ∧
    (∃ C c, w.cell? ⟨b, off + k * 2, none⟩ = some (.int .i64 rs[k].left) ∧ w.cell? ⟨b, off + k * 2 + 1, none⟩ = some (.slice C rs[k].right.length c) ∧ rs[k].right.length ≤ c ∧ SlAt w B C (ints rs[k].right)) ∧
    (∃ C c, w.cell? ⟨b, off + i * 2, none⟩ = some (.int .i64 rs[i].left) ∧ w.cell? ⟨b, off + i * 2 + 1, none⟩ = some (.slice C rs[i].right.length c) ∧ rs[i].right.length ≤ c ∧ SlAt w B C (ints rs[i].right)) := by
  rcases h with rfl | ⟨b, off, h1, h2, h3⟩
  · simp at hk
  · exact ⟨b, off, h1, h2, h3 k hk, h3 i hi⟩

theorem SlAt.heap {w W : World} {B : Nat} {A : Option Addr} {xs : List Value} (h : SlAt w B A xs) (hW : W.heap = w.heap) : SlAt W B A xs := h.keep fun p _ => by unfold World.cell?; rw [hW]
theorem RulesAt.heap {w W : World} {B : Nat} {A : Option Addr} {xs : List Rule} (h : RulesAt w B A xs) (hW : W.heap = w.heap) : RulesAt W B A xs := h.keep fun p _ => by unfold World.cell?; rw [hW]
theorem GAt.heap {w W : World} {B : Nat} {v : GV} {g : G} (h : GAt w B v g) (hW : W.heap = w.heap) : GAt W B v g := h.keep fun p _ => by unfold World.cell?; rw [hW]
theorem quiet_heap {P : Program} {f : FuncId} {args : Array Value} {v : Value} {w : World} (h : ∀ W : World, W.heap = w.heap → Calls P f args W fun e w' => e = .returned v ∧ ∃ m, w' = W.drewN m) (W : World) (hW : W.heap = w.heap) (n : Nat) :
    Calls P f args (W.drewN n) fun e w'' => e = .returned v ∧ ∃ m, w'' = W.drewN m := Calls.quiet_of (h _ hW)
theorem quiet_heap2 {P : Program} {f : FuncId} {args : Array Value} {v : Value} {w : World} (h : ∀ W : World, W.heap = w.heap → Calls P f args W fun e w' => e = .returned v ∧ ∃ m, w' = W.drewN m) (m x : Nat) :
    Calls P f args (w.drewN (m + x)) fun e w'' => e = .returned v ∧ ∃ n, w'' = w.drewN (m + n) :=
  (h (w.drewN (m + x)) rfl).mono fun _ _ ⟨h1, n, h2⟩ => ⟨h1, x + n, by rw [h2, World.drewN_drewN, Nat.add_assoc]⟩

/-- No two of the first n rules are alike. -/
def Apart (rs : List Rule) (n : Nat) : Prop := ∀ i (hi : i < rs.length), i < n → ∀ k (hk : k < i), rs[k] ≠ rs[i]
theorem apart_nodup (rs : List Rule) : Apart rs rs.length ↔ rs.Nodup := by
  unfold Apart List.Nodup
  rw [List.pairwise_iff_getElem]
  constructor
  · intro h i j hi hj hij; exact h j hj hj i hij
  · intro h i hi _ k hk; exact h k i (by omega) hi hk
noncomputable def bool (p : Prop) : Bool := @decide p (Classical.propDecidable p)
theorem bool_iff (p : Prop) : bool p = true ↔ p := by unfold bool; exact @decide_eq_true_iff p (Classical.propDecidable p)
theorem bool_true {p : Prop} (h : p) : bool p = true := (bool_iff p).2 h
theorem bool_false {p : Prop} (h : ¬ p) : bool p = false := by
  cases hb : bool p
  · rfl
  · exact absurd ((bool_iff p).1 hb) h
theorem bool_eq {p : Prop} {b : Bool} (h : b = true ↔ p) : b = bool p := by
  rw [Bool.eq_iff_iff, h, bool_iff]

set_option maxHeartbeats 1000000 in
theorem twice14_any (A : Option Addr) (c : Nat) (rs : List Rule) (w : World) (hA : RulesAt w w.heap.size A rs) (hc : rs.length ≤ c) (hm : c ≤ 9223372036854775807) (hr : ∀ r ∈ rs, r.right.length ≤ 9223372036854775807) :
    Calls Try.prog 52 #[.slice A rs.length c] w fun e w' => e = .returned (.bool (bool (¬ rs.Nodup))) ∧ ∃ m, w' = w.drewN m := by
  have HA := hide hA
  have HR := hide hr
  clear hA hr
  go_enter Try.func52, Try.ntmps52
  go_wp2
  go_loopw [3] (fun i W => (∃ m, W = w.drewN m) ∧ ∃ k : Nat, k ≤ rs.length ∧ i = .int .i64 k ∧ Hid (Apart rs k)) (fun i _ => rs.length - (intOf i).toNat)
  case atStart => exact ⟨(by first | exact ⟨_, rfl⟩ | exact ⟨_, Go.World.drewN_drewN ..⟩ | exact ⟨0, rfl⟩), 0, Nat.zero_le _, rfl, fun _ _ h => absurd h (by omega)⟩
  case round =>
    obtain ⟨⟨m, rfl⟩, i, hi, rfl, hap⟩ := hrel
    by_cases hlt : i < rs.length
    · go_wp2
      go_loopw [4] (fun j W => (∃ m, W = w.drewN m) ∧ ∃ k : Nat, k ≤ i ∧ j = .int .i64 k ∧ Hid (∀ a (h : a < rs.length), a < k → rs[a] ≠ rs[i])) (fun j _ => i - (intOf j).toNat)
      case atStart => exact ⟨(by first | exact ⟨_, rfl⟩ | exact ⟨_, Go.World.drewN_drewN ..⟩ | exact ⟨0, rfl⟩), 0, Nat.zero_le _, rfl, fun _ _ h => absurd h (by omega)⟩
      case round =>
        obtain ⟨⟨m2, rfl⟩, k, hk, rfl, hall⟩ := hrel
        by_cases hlt2 : k < i
        · have hklt : k < rs.length := by omega
          obtain ⟨b, off, rfl, hb, ⟨C, cc, k1, k2, k3, k4⟩, ⟨D, dd, i1, i2, i3, i4⟩⟩ := HA.out.at2 hklt hlt
          have r1 := HR.out _ (List.getElem_mem hklt)
          have r2 := HR.out _ (List.getElem_mem hlt)
          have k4 := hide k4; have i4 := hide i4
          have hs : ∀ W : World, W.heap = w.heap → Calls Try.prog 92 #[.slice D rs[i].right.length dd, .slice C rs[k].right.length cc] W fun e w' => e = .returned (.bool (decide (rs[i].right = rs[k].right))) ∧ ∃ m, w' = W.drewN m := by
            intro W hW
            exact sameright_any D dd _ C cc _ W ((i4.out.heap hW).more (by rw [hW]; exact Nat.le_refl _)) i3 ((k4.out.heap hW).more (by rw [hW]; exact Nat.le_refl _)) k3 r2 r1
          have Hs := hide hs
          clear hs i4 k4
          by_cases hd : rs[i].left = rs[k].left
          · have hd' : decide (rs[i].left = rs[k].left) = true := decide_eq_true hd
            by_cases he : rs[i].right = rs[k].right
            · have hq := hide (show rs[k] = rs[i] by rcases h1 : rs[k] with ⟨l1, g1⟩; rcases h2 : rs[i] with ⟨l2, g2⟩; rw [h1, h2] at hd he; simp_all)
              rw [decide_eq_true he] at Hs
              clear he
              go_wp2_with (go_quiet ((go_at_call 92; exact quiet_heap2 Hs.out _ _)))
              go_ret
              refine ⟨ret_b ?_, (by first | exact ⟨_, rfl⟩ | exact ⟨_, Go.World.drewN_drewN ..⟩ | exact ⟨0, rfl⟩)⟩
              symm; apply bool_true
              rw [← apart_nodup]
              intro h
              exact h i hlt hlt k hlt2 hq.out
            · have hq := hide (show rs[k] ≠ rs[i] from fun e => he (by rw [e]))
              rw [decide_eq_false he] at Hs
              clear he
              go_wp2_with (go_quiet ((go_at_call 92; exact quiet_heap2 Hs.out _ _)))
              go_roundw
              case rel =>
                refine ⟨(by first | exact ⟨_, rfl⟩ | exact ⟨_, Go.World.drewN_drewN ..⟩ | exact ⟨0, rfl⟩), k + 1, by omega, by go_num, fun a ha hak => ?_⟩
                by_cases e : a = k
                · subst e; exact hq.out
                · exact hall.out a ha (by omega)
              case measure => simp [intOf]; omega
          · have hd' : decide (rs[i].left = rs[k].left) = false := decide_eq_false hd
            have hq := hide (show rs[k] ≠ rs[i] from fun e => hd (by rw [e]))
            go_wp2_with (go_quiet ((go_at_call 92; exact quiet_heap2 Hs.out _ _)))
            go_roundw
            case rel =>
              refine ⟨(by first | exact ⟨_, rfl⟩ | exact ⟨_, Go.World.drewN_drewN ..⟩ | exact ⟨0, rfl⟩), k + 1, by omega, by go_num, fun a ha hak => ?_⟩
              by_cases e : a = k
              · subst e; exact hq.out
              · exact hall.out a ha (by omega)
            case measure => simp [intOf]; omega
        · go_wp2_with fail
          go_roundw
          case rel =>
            refine ⟨(by first | exact ⟨_, rfl⟩ | exact ⟨_, Go.World.drewN_drewN ..⟩ | exact ⟨0, rfl⟩), i + 1, by omega, by go_num, fun a ha hai b hb => ?_⟩
            by_cases e : a = i
            · subst e; exact hall.out b (by omega) (by omega)
            · exact hap.out a ha (by omega) b hb
          case measure => simp [intOf]; omega
    · go_wp2_with fail
      go_ret
      refine ⟨ret_b ?_, (by first | exact ⟨_, rfl⟩ | exact ⟨_, Go.World.drewN_drewN ..⟩ | exact ⟨0, rfl⟩)⟩
      symm; apply bool_false
      rw [← apart_nodup]
      have := hap.out
      rw [show i = rs.length by omega] at this
      exact fun h => h this
end Go.Proofs.Ythpjjlmgdalpaaa
