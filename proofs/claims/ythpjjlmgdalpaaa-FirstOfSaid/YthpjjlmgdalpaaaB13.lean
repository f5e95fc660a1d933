/- The reference's Reached, used. -/
import Derived.Test.YthpjjlmgdalpaaaB12
namespace Go.Proofs.Ythpjjlmgdalpaaa
open Go.RowKit

def reach1 (l : Nat) (P : List Bool) (s : Int) : List Bool := if decide (0 ≤ s) && P.getD l false then P.set s.toNat true else P
def reachStep (P : List Bool) (r : Rule) : List Bool := r.right.foldl (reach1 r.left.toNat) P
def reachN (g : G) : Nat → List Bool
  | 0 => (List.replicate g.names.length false).set 0 true
  | k + 1 => g.rules.foldl reachStep (reachN g k)
theorem reach1_len (l : Nat) (P : List Bool) (s : Int) : (reach1 l P s).length = P.length := by unfold reach1; split <;> simp
theorem foldlI_len (l : Nat) : ∀ (r : List Int) (P : List Bool), (r.foldl (reach1 l) P).length = P.length
  | [], _ => rfl
  | s :: r, P => by rw [List.foldl_cons, foldlI_len l r, reach1_len]
theorem reachStep_len (P : List Bool) (r : Rule) : (reachStep P r).length = P.length := foldlI_len _ _ _
theorem reachN_len (g : G) : ∀ k, (reachN g k).length = g.names.length
  | 0 => by simp [reachN]
  | k + 1 => by rw [reachN, foldl_len _ reachStep_len, reachN_len g k]

set_option maxHeartbeats 4000000 in
set_option maxRecDepth 8000 in
theorem reached15_any (v : GV) (g : G) (w : World) (hg : GAt w w.heap.size v g) (hv : VG g) : Calls Try.prog 60 #[.agg #[.slice v.An g.names.length v.cn, .slice v.At g.terms.length v.ct, .slice v.Ar g.rules.length v.cr]] w fun e w' => (∃ b, w.heap.size ≤ b ∧ b < w'.heap.size ∧ e = .returned (.slice (some ⟨b, 0, none⟩) g.names.length g.names.length) ∧ BB w' b (reachN g (g.names.length + 1))) ∧ Below w.heap.size w w' := by
  obtain ⟨An, cn, At, ct, Ar, cr⟩ := v
  obtain ⟨gn, gt, gr, hn, ht, hr, sn, st, sr⟩ := hg
  dsimp only at gn gt gr hn ht hr
  have n1 := hv.n1; have n2 := hv.sy; have n3 := hv.rl
  have HV := hide hv
  have Hr := hide gr
  clear hv gn gt gr sn st sr
  have hmk := fun W => make_bools W g.names.length (by omega)
  have Hb0 := hide (Bx.self (w := w) (cs := #[.slice An g.names.length cn, .slice At g.terms.length ct, .slice Ar g.rules.length cr]) (T := 25))
  have e00 : (Array.replicate g.names.length (Value.bool false))[0]? = some (.bool false) := by rw [Array.getElem?_replicate, if_pos (by omega)]
  go_enter Try.func60, Try.ntmps60
  go_wp2_with fail
  clear hmk e00
  go_loopw [4] (fun i V => ∃ W, W = V ∧ Bx w #[.slice An g.names.length cn, .slice At g.terms.length ct, .slice Ar g.rules.length cr] 25 W ∧ ∃ k : Nat, k ≤ g.names.length + 1 ∧ i = .int .i64 k ∧ BB W (w.heap.size + 1) (reachN g k)) (fun i _ => g.names.length + 1 - (intOf i).toNat)
  case atStart =>
    refine ⟨_, rfl, Hb0.out.alloc _, 0, by omega, rfl, ?_⟩
    have := Blk.new (w.alloc (.cells #[.slice An g.names.length cn, .slice At g.terms.length ct, .slice Ar g.rules.length cr] 25)) 4 ((Array.replicate g.names.length (Value.bool false)).setIfInBounds 0 (Value.bool true))
    have e : (bools (reachN g 0)).toArray = (Array.replicate g.names.length (Value.bool false)).setIfInBounds 0 (Value.bool true) := by
      apply Array.ext'; simp [reachN, List.map_set]
    unfold BB
    rw [e]
    simpa using this
  case round =>
    obtain ⟨W, rfl, hbx, n, hn', rfl, hP⟩ := hrel
    have cG := hbx.cell
    by_cases hlt : n ≤ g.names.length
    · go_wp2_with fail
      have Hb := hide hbx
      have HP := hide hP
      clear hbx hP cG
      go_loopw [5] (fun i V => ∃ W, W = V ∧ Bx w #[.slice An g.names.length cn, .slice At g.terms.length ct, .slice Ar g.rules.length cr] 25 W ∧ ∃ k : Nat, k ≤ g.rules.length ∧ i = .int .i64 k ∧ BB W (w.heap.size + 1) ((g.rules.take k).foldl reachStep (reachN g n))) (fun i _ => g.rules.length - (intOf i).toNat)
      case atStart => exact ⟨_, rfl, Hb.out, 0, by omega, rfl, HP.out⟩
      case round =>
        clear Hb HP
        obtain ⟨W, rfl, hbx, i, hi, rfl, hP⟩ := hrel
        by_cases hlt2 : i < g.rules.length
        · have Hb := hide hbx
          have cG := hbx.cell
          obtain ⟨P, hPe⟩ : ∃ P, P = (g.rules.take i).foldl reachStep (reachN g n) := ⟨_, rfl⟩
          rw [← hPe] at hP
          have Hpl := hide (show P.length = g.names.length by rw [hPe, foldl_len _ reachStep_len, reachN_len])
          have Hpe := hide hPe
          have HP := hide hP
          clear hbx hP hPe
          go_wp2_with fail
          clear cG
          go_loopw [6] (fun j V => ∃ W, W = V ∧ Bx w #[.slice An g.names.length cn, .slice At g.terms.length ct, .slice Ar g.rules.length cr] 25 W ∧ ∃ k : Nat, k ≤ g.rules[i].right.length ∧ j = .int .i64 k ∧ BB W (w.heap.size + 1) ((g.rules[i].right.take k).foldl (reach1 g.rules[i].left.toNat) P)) (fun j _ => g.rules[i].right.length - (intOf j).toNat)
          case atStart => exact ⟨_, rfl, Hb.out, 0, by omega, rfl, HP.out⟩
          case round =>
            clear Hb HP
            obtain ⟨W, rfl, hbx, k, hk, rfl, hP⟩ := hrel
            have cG := hbx.cell
            have hbl := hbx.lt
            obtain ⟨b, off, rfl, hb, C, c, k1, k2, k3, k4⟩ := Hr.out.at_ hlt2
            have c1 := (hbx.below.cell hb).trans k1
            have c2 := (hbx.below.cell hb).trans k2
            have Hk4 := hide (k4.below hbx.below)
            have HF := hide (HV.out.ru _ (List.getElem_mem hlt2))
            have hfit := HF.out.2.2.1
            have Hb := hide hbx
            obtain ⟨R, hRe⟩ : ∃ R, R = (g.rules[i].right.take k).foldl (reach1 g.rules[i].left.toNat) P := ⟨_, rfl⟩
            rw [← hRe] at hP
            have hRl : R.length = g.names.length := by rw [hRe, foldlI_len, Hpl.out]
            have HRe := hide hRe
            have HP := hide hP
            clear hbx hP k1 k2 k3 k4 hRe
            by_cases hk2 : k < g.rules[i].right.length
            · obtain ⟨b2, off2, rfl, hb2, hcs2⟩ := Hk4.out.at_ (k := k) (by simpa using hk2)
              have e1 := hcs2 k _ (ints_at _ k hk2)
              clear hcs2
              have hs := HF.out.2.2.2 _ (List.getElem_mem hk2)
              have Hs := hide (foldl_take (reach1 g.rules[i].left.toNat) P g.rules[i].right k hk2)
              by_cases h0 : g.rules[i].right[k] < 0
              · have ho : Hid (reach1 g.rules[i].left.toNat R g.rules[i].right[k] = R) := by unfold Hid reach1; rw [decide_eq_false (by omega)]; rfl
                go_wp2_with fail
                all_goals first | (exfalso; omega) | skip
                go_roundw
                case rel => exact ⟨_, rfl, Hb.out, k + 1, by omega, by go_num, by rw [Hs.out, ← HRe.out, ho.out]; exact HP.out⟩
                case measure => simp [intOf]; omega
              · obtain ⟨m, hm⟩ := Int.eq_ofNat_of_zero_le (by omega : 0 ≤ g.rules[i].right[k])
                rw [hm] at e1 h0 hs
                have hml : m < g.names.length := by omega
                have hl0 := HF.out.1
                have hl1 := HF.out.2.1
                obtain ⟨q, hq⟩ := Int.eq_ofNat_of_zero_le hl0
                rw [hq] at c1 hl0 hl1
                have hql : q < g.names.length := by omega
                have e2 := BB.at_ HP.out q (by omega)
                have e3 := BB.at_ HP.out m (by omega)
                have fz := HP.out.frozen m
                have ho : Hid (reach1 g.rules[i].left.toNat R g.rules[i].right[k] = if R.getD q false then R.set m true else R) := by unfold Hid reach1; rw [hm, hq, decide_eq_true (by omega)]; simp
                clear hm hq
                cases hz : R.getD q false
                · rw [hz] at e2
                  have Ho : Hid (reach1 g.rules[i].left.toNat R g.rules[i].right[k] = R) := by unfold Hid; rw [ho.out, hz]; rfl
                  clear hz
                  go_wp2_with fail
                  all_goals first | (exfalso; omega) | skip
                  go_roundw
                  case rel => exact ⟨_, rfl, Hb.out, k + 1, by omega, by go_num, by rw [Hs.out, ← HRe.out, Ho.out]; exact HP.out⟩
                  case measure => simp [intOf]; omega
                · rw [hz] at e2
                  have Ho : Hid (reach1 g.rules[i].left.toNat R g.rules[i].right[k] = R.set m true) := by unfold Hid; rw [ho.out, hz]; rfl
                  clear hz
                  go_wp2_with fail
                  all_goals first | (exfalso; omega) | skip
                  go_roundw
                  case rel => exact ⟨_, rfl, Hb.out.set _ _ (by omega) _, k + 1, by omega, by go_num, by rw [Hs.out, ← HRe.out, Ho.out]; exact BB.set HP.out m true⟩
                  case measure => simp [intOf]; omega
            · obtain rfl : k = g.rules[i].right.length := by omega
              have Hfin : Hid (R = reachStep P g.rules[i]) := by rw [Hid, HRe.out, List.take_length]; rfl
              go_wp2_with fail
              go_roundw
              case rel => exact ⟨_, rfl, Hb.out, i + 1, by omega, by go_num, by rw [foldl_take _ _ _ _ hlt2, ← Hpe.out, ← Hfin.out]; exact HP.out⟩
              case measure => simp [intOf]; omega
        · obtain rfl : i = g.rules.length := by omega
          have cG := hbx.cell
          rw [List.take_length] at hP
          go_wp2_with fail
          go_roundw
          case rel => exact ⟨_, rfl, hbx, n + 1, by omega, by go_num, hP⟩
          case measure => simp [intOf]; omega
    · obtain rfl : n = g.names.length + 1 := by omega
      go_wp2_with fail
      go_ret
      exact ⟨⟨w.heap.size + 1, by omega, hP.lt, rfl, hP⟩, hbx.below⟩

/-- A terminal stands in a rule whose nonterminal is among those given. -/
def UsedP (g : G) (P : List Bool) (t : Nat) : Prop := ∃ r ∈ g.rules, P.getD r.left.toNat false = true ∧ (-1 - (t : Int)) ∈ r.right
set_option maxHeartbeats 4000000 in
set_option maxRecDepth 8000 in
theorem used15_any (v : GV) (g : G) (w : World) (hg : GAt w w.heap.size v g) (hv : VG g) (pb : Nat) (P : List Bool) (hP : BB w pb P) (hPl : P.length = g.names.length) (t : Nat) (ht1 : t < g.terms.length) :
    Calls Try.prog 61 #[.agg #[.slice v.An g.names.length v.cn, .slice v.At g.terms.length v.ct, .slice v.Ar g.rules.length v.cr], .slice (some ⟨pb, 0, none⟩) g.names.length g.names.length, .int .i64 t] w fun e w' => e = .returned (.bool (bool (UsedP g P t))) ∧ Below w.heap.size w w' := by
  have hpb := hP.lt
  have Hb : Hid (Below w.heap.size w (w.alloc (.cells #[.slice v.An g.names.length v.cn, .slice v.At g.terms.length v.ct, .slice v.Ar g.rules.length v.cr] 25))) := (Below.refl _ _).alloc (Nat.le_refl _) _
  obtain ⟨An, cn, At, ct, Ar, cr⟩ := v
  obtain ⟨gn, gt, gr, hn, ht, hr, sn, st, sr⟩ := hg
  dsimp only at gn gt gr hn ht hr Hb
  have n1 := hv.n1; have n2 := hv.sy; have n3 := hv.rl
  have HV := hide hv
  have Hr := hide gr
  have HP := hide hP
  clear hv gn gt gr sn st sr hP
  have wt : IntKind.i64.wrap (-1 - (t : Int)) = -1 - (t : Int) := IntWalk.i64_in _ (by omega)
  go_enter Try.func61, Try.ntmps61
  go_wp2_with fail
  go_loop [7] (fun i => ∃ k : Nat, k ≤ g.rules.length ∧ i = .int .i64 k ∧ Hid (∀ a (h : a < g.rules.length), a < k → P.getD g.rules[a].left.toNat false = true → (-1 - (t : Int)) ∉ g.rules[a].right)) (fun i => g.rules.length - (intOf i).toNat)
  case atStart => exact ⟨0, by omega, rfl, fun _ _ h => absurd h (by omega)⟩
  case round =>
    obtain ⟨i, hi, rfl, hall⟩ := hrel
    by_cases hlt2 : i < g.rules.length
    · go_wp2_with fail
      go_loop [8] (fun j => ∃ k : Nat, k ≤ g.rules[i].right.length ∧ j = .int .i64 k ∧ Hid (P.getD g.rules[i].left.toNat false = true → (-1 - (t : Int)) ∉ g.rules[i].right.take k)) (fun j => g.rules[i].right.length - (intOf j).toNat)
      case atStart => exact ⟨0, by omega, rfl, by simp [Hid]⟩
      case round =>
        obtain ⟨k, hk, rfl, hno⟩ := hrel
        obtain ⟨b, off, rfl, hb, C, c, c1, c2, k3, k4⟩ := Hr.out.at_ hlt2
        have Hk4 := hide k4
        have HF := hide (HV.out.ru _ (List.getElem_mem hlt2))
        have hfit := HF.out.2.2.1
        clear k3 k4
        by_cases hk2 : k < g.rules[i].right.length
        · obtain ⟨b2, off2, rfl, hb2, hcs2⟩ := Hk4.out.at_ (k := k) (by simpa using hk2)
          have e1 := hcs2 k _ (ints_at _ k hk2)
          clear hcs2
          have hl0 := HF.out.1
          have hl1 := HF.out.2.1
          obtain ⟨q, hq⟩ := Int.eq_ofNat_of_zero_le hl0
          rw [hq] at c1 hl0 hl1
          have hql : q < g.names.length := by omega
          have e2 := BB.at_ HP.out q (by omega)
          have Hq : Hid (P.getD g.rules[i].left.toNat false = P.getD q false) := by unfold Hid; rw [hq]; rfl
          clear hq
          by_cases h0 : g.rules[i].right[k] = -1 - (t : Int)
          · cases hz : P.getD q false
            · rw [hz] at e2
              have Hz := hide (Hq.out.trans hz)
              rw [h0] at e1
              clear hz h0
              go_wp2_with fail
              all_goals first | (exfalso; omega) | skip
              go_round
              case rel => exact ⟨k + 1, by omega, by go_num, by rw [Hid, Hz.out]; exact fun h => by cases h⟩
              case measure => simp [intOf]; omega
            · rw [hz] at e2
              have Hyes : Hid (UsedP g P t) := ⟨_, List.getElem_mem hlt2, Hq.out.trans hz, h0 ▸ List.getElem_mem hk2⟩
              rw [h0] at e1
              clear hz h0
              go_wp2_with fail
              all_goals first | (exfalso; omega) | skip
              go_ret
              exact ⟨ret_b (bool_true Hyes.out).symm, Hb.out⟩
          · have H0 := hide h0
            have h0' : (g.rules[i].right[k] == -1 - (t : Int)) = false := by rw [beq_eq_false_iff_ne]; exact h0
            clear h0
            go_wp2_with fail
            all_goals first | (exfalso; omega) | skip
            go_round
            case rel => exact ⟨k + 1, by omega, by go_num, fun hp hm => by
              rcases (mem_take_succ _ _ _ hk2).1 hm with h | h
              · exact hno.out hp h
              · exact H0.out h.symm⟩
            case measure => simp [intOf]; omega
        · obtain rfl : k = g.rules[i].right.length := by omega
          have hno' := hno.out
          rw [List.take_length] at hno'
          have Hno := hide hno'
          clear hno'
          go_wp2_with fail
          go_round
          case rel =>
            refine ⟨i + 1, by omega, by go_num, fun a ha hai hp => ?_⟩
            by_cases e : a = i
            · subst e; exact Hno.out hp
            · exact hall.out a ha (by omega) hp
          case measure => simp [intOf]; omega
    · have Hno : Hid (¬ UsedP g P t) := by
        rintro ⟨r, hr, h1, h2⟩
        obtain ⟨a, ha, rfl⟩ := List.mem_iff_getElem.1 hr
        exact hall.out a ha (by omega) h1 h2
      go_wp2_with fail
      go_ret
      exact ⟨ret_b (bool_false Hno.out).symm, Hb.out⟩
end Go.Proofs.Ythpjjlmgdalpaaa
