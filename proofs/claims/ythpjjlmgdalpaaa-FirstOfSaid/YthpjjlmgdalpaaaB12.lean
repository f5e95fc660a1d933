/- make; the reference's Productive and Reached. -/
import Derived.Test.YthpjjlmgdalpaaaB11
import Derived.Laws.MakeOwn
namespace Go.Proofs.Ythpjjlmgdalpaaa
open Go.RowKit

abbrev bools (l : List Bool) : List Value := l.map Value.bool
theorem infoB : (Try.prog.info? 4).map (fun i => (i.zero, i.size, i.bytes)) = some (some (.bool false), 1, 1) := by kernel_rfl
theorem made_one (z : Value) (n : Nat) : madeCells #[z] n = (List.replicate n z).toArray := by
  apply Array.ext'; rw [toList_madeCells_one]
theorem make_bools (w : World) (n : Nat) (h : n ≤ 1000000) : (Instr.makeSlice 59 (.int .i64 (n : Int)) (.int .i64 (n : Int))).run Try.prog w = .ok (.slice (some ⟨w.heap.size, 0, none⟩) n n) (w.alloc (.cells (bools (List.replicate n false)).toArray 4)) := by
  obtain ⟨i0, hi, hz0, hz2, hz3⟩ := info_parts infoB
  have := run_make (P := Try.prog) w 59 4 i0 (.bool false) Try.underlying59 hi hz0 .i64 .i64 n n (by omega) (by omega) (by rw [hz3]; omega) (by omega)
  rw [this, hz2, Int.toNat_natCast, Nat.mul_one]
  simp only [Value.cells]
  rw [made_one]
  simp
theorem make_ints (w : World) (n : Nat) (h : n ≤ 1000000) : (Instr.makeSlice 26 (.int .i64 (n : Int)) (.int .i64 (n : Int))).run Try.prog w = .ok (.slice (some ⟨w.heap.size, 0, none⟩) n n) (w.alloc (.cells (ints (List.replicate n 0)).toArray 3)) := by
  obtain ⟨i0, hi, hz0, hz2, hz3⟩ := info_parts infoI
  have := run_make (P := Try.prog) w 26 3 i0 (.int .i64 0) Try.underlying26 hi hz0 .i64 .i64 n n (by omega) (by omega) (by rw [hz3]; omega) (by omega)
  rw [this, hz2, Int.toNat_natCast, Nat.mul_one]
  simp only [Value.cells]
  rw [made_one]
  simp

/-- A block that holds bools. -/
abbrev BB (w : World) (b : Nat) (l : List Bool) : Prop := Blk w b 4 (bools l).toArray
section
variable {w : World} {b : Nat} {l : List Bool}
theorem bools_get (l : List Bool) (k : Nat) (h : k < l.length) : (bools l).toArray[k]? = some (.bool (l.getD k false)) := by
  simp [List.getD, h]
theorem BB.at_ (h : BB w b l) (k : Nat) (hk : k < l.length) : w.cell? ⟨b, k, none⟩ = some (.bool (l.getD k false)) := by
  rw [h.cell k, bools_get l k hk]
theorem BB.set (h : BB w b l) (k : Nat) (x : Bool) : BB (w.setCell ⟨b, k, none⟩ (.bool x)) b (l.set k x) := by
  have := h.set_ k (.bool x)
  have e : (bools (l.set k x)).toArray = (bools l).toArray.setIfInBounds k (.bool x) := by
    apply Array.ext'; simp [List.map_set]
  unfold BB; rw [e]; exact this
end

def okB (P : List Bool) (s : Int) : Bool := decide (s < 0) || P.getD s.toNat false
def prodStep (P : List Bool) (r : Rule) : List Bool := if r.right.all (okB P) then P.set r.left.toNat true else P
def prodN (g : G) : Nat → List Bool
  | 0 => List.replicate g.names.length false
  | k + 1 => g.rules.foldl prodStep (prodN g k)
theorem prodStep_len (P : List Bool) (r : Rule) : (prodStep P r).length = P.length := by unfold prodStep; split <;> simp
theorem foldl_len {α : Type} (f : List Bool → α → List Bool) (hf : ∀ P r, (f P r).length = P.length) : ∀ (l : List α) (P : List Bool), (l.foldl f P).length = P.length
  | [], _ => rfl
  | r :: l, P => by rw [List.foldl_cons, foldl_len f hf l, hf]
theorem prodN_len (g : G) : ∀ k, (prodN g k).length = g.names.length
  | 0 => by simp [prodN]
  | k + 1 => by rw [prodN, foldl_len _ prodStep_len, prodN_len g k]
theorem foldl_take {α β : Type} (f : β → α → β) (b : β) (l : List α) (k : Nat) (h : k < l.length) : (l.take (k + 1)).foldl f b = f ((l.take k).foldl f b) l[k] := by
  rw [List.take_succ_eq_append_getElem h, List.foldl_append]; rfl
theorem Below.set {B : Nat} {a b : World} (h : Below B a b) (g k : Nat) (hg : B ≤ g) (u : Value) : Below B a (b.setCell ⟨g, k, none⟩ u) := h.setCell (p := ⟨g, k, none⟩) hg u
theorem Bx.set {w W : World} {cs : Array Value} {T : TypeId} (h : Bx w cs T W) (g k : Nat) (hg : w.heap.size + 1 ≤ g) (u : Value) : Bx w cs T (W.setCell ⟨g, k, none⟩ u) := Below.set h g k hg u

set_option maxHeartbeats 4000000 in
set_option maxRecDepth 8000 in
theorem productive15_any (v : GV) (g : G) (w : World) (hg : GAt w w.heap.size v g) (hv : VG g) : Calls Try.prog 59 #[.agg #[.slice v.An g.names.length v.cn, .slice v.At g.terms.length v.ct, .slice v.Ar g.rules.length v.cr]] w fun e w' => (∃ b, w.heap.size ≤ b ∧ b < w'.heap.size ∧ e = .returned (.slice (some ⟨b, 0, none⟩) g.names.length g.names.length) ∧ BB w' b (prodN g (g.names.length + 1))) ∧ Below w.heap.size w w' := by
  obtain ⟨An, cn, At, ct, Ar, cr⟩ := v
  obtain ⟨gn, gt, gr, hn, ht, hr, sn, st, sr⟩ := hg
  dsimp only at gn gt gr hn ht hr
  have n1 := hv.n1; have n2 := hv.sy; have n3 := hv.rl
  have HV := hide hv
  have Hr := hide gr
  clear hv gn gt gr sn st sr
  have hmk := fun W => make_bools W g.names.length (by omega)
  have Hb0 := hide (Bx.self (w := w) (cs := #[.slice An g.names.length cn, .slice At g.terms.length ct, .slice Ar g.rules.length cr]) (T := 25))
  go_enter Try.func59, Try.ntmps59
  go_wp2_with fail
  clear hmk
  go_loopw [4] (fun i V => ∃ W, W = V ∧ Bx w #[.slice An g.names.length cn, .slice At g.terms.length ct, .slice Ar g.rules.length cr] 25 W ∧ ∃ k : Nat, k ≤ g.names.length + 1 ∧ i = .int .i64 k ∧ BB W (w.heap.size + 1) (prodN g k)) (fun i _ => g.names.length + 1 - (intOf i).toNat)
  case atStart =>
    refine ⟨_, rfl, Hb0.out.alloc _, 0, by omega, rfl, ?_⟩
    have := Blk.new (w.alloc (.cells #[.slice An g.names.length cn, .slice At g.terms.length ct, .slice Ar g.rules.length cr] 25)) 4 (bools (List.replicate g.names.length false)).toArray
    show Blk _ (w.heap.size + 1) 4 (bools (List.replicate g.names.length false)).toArray
    simpa using this
  case round =>
    obtain ⟨W, rfl, hbx, n, hn', rfl, hP⟩ := hrel
    have cG := hbx.cell
    by_cases hlt : n ≤ g.names.length
    · go_wp2_with fail
      have Hb := hide hbx
      have HP := hide hP
      clear hbx hP cG
      go_loopw [5] (fun i V => ∃ W, W = V ∧ Bx w #[.slice An g.names.length cn, .slice At g.terms.length ct, .slice Ar g.rules.length cr] 25 W ∧ ∃ k : Nat, k ≤ g.rules.length ∧ i = .int .i64 k ∧ BB W (w.heap.size + 1) ((g.rules.take k).foldl prodStep (prodN g n))) (fun i _ => g.rules.length - (intOf i).toNat)
      case atStart => exact ⟨_, rfl, Hb.out, 0, by omega, rfl, HP.out⟩
      case round =>
        clear Hb HP
        obtain ⟨W, rfl, hbx, i, hi, rfl, hP⟩ := hrel
        have cG := hbx.cell
        have hbl := hbx.lt
        by_cases hlt2 : i < g.rules.length
        · obtain ⟨b, off, rfl, hb, C, c, k1, k2, k3, k4⟩ := Hr.out.at_ hlt2
          have c1 := (hbx.below.cell hb).trans k1
          have c2 := (hbx.below.cell hb).trans k2
          have Hk4 := hide (k4.below hbx.below)
          have HF := hide (HV.out.ru _ (List.getElem_mem hlt2))
          have hfit := HF.out.2.2.1
          have Hb := hide hbx
          obtain ⟨P, hPe⟩ : ∃ P, P = (g.rules.take i).foldl prodStep (prodN g n) := ⟨_, rfl⟩
          rw [← hPe] at hP
          have hPl : P.length = g.names.length := by rw [hPe, foldl_len _ prodStep_len, prodN_len]
          have Hpe := hide hPe
          have HP := hide hP
          clear hbx hP k1 k2 k3 k4 hPe
          go_wp2_with fail
          go_loop [6, 7] (fun a j => ∃ k : Nat, k ≤ g.rules[i].right.length ∧ j = .int .i64 k ∧ a = .bool ((g.rules[i].right.take k).all (okB P))) (fun _ j => g.rules[i].right.length - (intOf j).toNat)
          case atStart => exact ⟨0, by omega, rfl, rfl⟩
          case round =>
            obtain ⟨k, hk, rfl, rfl⟩ := hrel
            by_cases hk2 : k < g.rules[i].right.length
            · obtain ⟨b2, off2, rfl, hb2, hcs2⟩ := Hk4.out.at_ (k := k) (by simpa using hk2)
              have e1 := hcs2 k _ (ints_at _ k hk2)
              clear hcs2
              have hs := HF.out.2.2.2 _ (List.getElem_mem hk2)
              have Hs := hide (all_take_succ g.rules[i].right (okB P) k hk2)
              by_cases h0 : g.rules[i].right[k] < 0
              · have ho : Hid (okB P g.rules[i].right[k] = true) := by unfold Hid okB; rw [decide_eq_true h0]; rfl
                go_wp2_with fail
                all_goals first | (exfalso; omega) | skip
                go_round
                case rel => exact ⟨k + 1, by omega, by go_num, by rw [Hs.out, ho.out, Bool.and_true]⟩
                case measure => simp [intOf]; omega
              · obtain ⟨m, hm⟩ := Int.eq_ofNat_of_zero_le (by omega : 0 ≤ g.rules[i].right[k])
                rw [hm] at e1 h0 hs
                have hml : m < g.names.length := by omega
                have e2 := BB.at_ HP.out m (by omega)
                have ho : Hid (okB P g.rules[i].right[k] = P.getD m false) := by unfold Hid okB; rw [hm, decide_eq_false (by omega)]; simp
                clear hm
                cases hq : P.getD m false
                · rw [hq] at e2
                  have Ho := hide (ho.out.trans hq)
                  clear hq
                  go_wp2_with fail
                  all_goals first | (exfalso; omega) | skip
                  go_round
                  case rel => exact ⟨k + 1, by omega, by go_num, by rw [Hs.out, Ho.out, Bool.and_false]⟩
                  case measure => simp [intOf]; omega
                · rw [hq] at e2
                  have Ho := hide (ho.out.trans hq)
                  clear hq
                  go_wp2_with fail
                  all_goals first | (exfalso; omega) | skip
                  go_round
                  case rel => exact ⟨k + 1, by omega, by go_num, by rw [Hs.out, Ho.out, Bool.and_true]⟩
                  case measure => simp [intOf]; omega
            · obtain rfl : k = g.rules[i].right.length := by omega
              rw [List.take_length]
              have h0 := HF.out.1
              have h1 := HF.out.2.1
              obtain ⟨m, hm⟩ := Int.eq_ofNat_of_zero_le h0
              rw [hm] at c1 h0 h1
              have hml : m < g.names.length := by omega
              have fz := HP.out.frozen m
              have e2 := BB.at_ HP.out m (by omega)
              cases ha : g.rules[i].right.all (okB P)
              · have Hst : Hid (prodStep P g.rules[i] = P) := by unfold Hid prodStep; rw [ha]; rfl
                clear ha hm
                go_wp2_with fail
                go_roundw
                case rel => exact ⟨_, rfl, Hb.out, i + 1, by omega, by go_num, by rw [foldl_take _ _ _ _ hlt2, ← Hpe.out, Hst.out]; exact HP.out⟩
                case measure => simp [intOf]; omega
              · have Hst : Hid (prodStep P g.rules[i] = P.set m true) := by unfold Hid prodStep; rw [ha, if_pos rfl, hm]; rfl
                clear ha hm
                go_wp2_with fail
                go_roundw
                case rel => exact ⟨_, rfl, Hb.out.set _ _ (by omega) _, i + 1, by omega, by go_num, by rw [foldl_take _ _ _ _ hlt2, ← Hpe.out, Hst.out]; exact HP.out.set m true⟩
                case measure => simp [intOf]; omega
        · obtain rfl : i = g.rules.length := by omega
          rw [List.take_length] at hP
          go_wp2_with fail
          go_roundw
          case rel => exact ⟨_, rfl, hbx, n + 1, by omega, by go_num, hP⟩
          case measure => simp [intOf]; omega
    · obtain rfl : n = g.names.length + 1 := by omega
      go_wp2_with fail
      go_ret
      exact ⟨⟨w.heap.size + 1, by omega, hP.lt, rfl, hP⟩, hbx.below⟩
end Go.Proofs.Ythpjjlmgdalpaaa
