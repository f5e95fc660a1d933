/- ref18.All: all words of at most k letters. -/
import Derived.Test.YthpjjlmgdalpaaaP3
import Derived.Deep.RegionLaw
import Derived.Deep.DeepCutAuto
namespace Go.Proofs.Ythpjjlmgdalpaaa
open Go.RowKit

theorem step_push {P : Program} {ops : Array Oper} {o : Oper} {a : Act} {w : World} {K : Act → World → Prop} {Q : Exit → Act → World → Prop} {E : Prop} (hgd : o.guard = none) (s x : Operand) (t : TypeId)
    (ho : o.op = .call { callee := .builtin .append, args := #[s, x], argTypes := #[t, t] }) (B : Nat) (e : TypeId) (z : Value) (bytes : Nat) (ht : P.underlying t = some (.slice e))
    (hinfo : (P.info? e).map (fun i => (i.zero, i.size, i.bytes)) = some (some z, 1, bytes)) (hz1 : z.cells.size = 1)
    (v : Value) (xs : List Value) (hs : a.eval s = v) (hown : Own w B e v xs) (b : Nat) (u : Value) (hx : a.eval x = .slice (some ⟨b, 0, none⟩) 1 1) (hu : w.cell? ⟨b, 0, none⟩ = some u) (h1 : u.oneCell' = true)
    (hbytes : (xs.length + 1) * bytes ≤ 140737488355328) (hbp : 0 < bytes) (hB : B ≤ w.heap.size)
    (h : ∀ g cap w', Own w' B e (.slice (some ⟨g, 0, none⟩) (xs.length + 1) cap) (xs ++ [u]) → w.grownBy w' v.ownBlock → K (a.put o.dst (.slice (some ⟨g, 0, none⟩) (xs.length + 1) cap)) w') :
    if Region.wanted o (yielded ops a.tmps) = true then Oper.wp P o a w K Q else E := by
  obtain ⟨i0, hi, hz0, hz2, hz3⟩ := info_parts hinfo
  have hlen : xs.length + 1 ≤ 140737488355328 := Nat.le_trans (Nat.le_mul_of_pos_right _ hbp) hbytes
  refine step_append_lies _ hgd s x t ho B e i0 z 1 bytes ht hi hz0 hz2 hz3 hz1 (by decide) v xs.length xs hs hown ⟨b, 0, none⟩ 1 1 [u] hx rfl (fun j y hy => ?_) (by simpa using h1) (by decide) (by unfold maxLen; omega) hbytes hB _ rfl fun g cap w' h2 h3 _ _ => h g cap w' (by unfold Own; simpa using h2) h3
  rcases j with _ | j
  · have : (⟨b, 0, none⟩ : Addr).add 0 = ⟨b, 0, none⟩ := by simp [Addr.add]
    rw [this, hu]; simpa using hy
  · simp at hy

/-- The words that come of a word, by one letter more. -/
def expW (t : Nat) (w : List UInt8) : List (List UInt8) := (List.range t).map fun c => w ++ [UInt8.ofNat c]
/-- The words shorter than n letters. -/
def preW (t : Nat) : Nat → List (List UInt8)
  | 0 => []
  | n + 1 => allW t n
theorem allW_pre (t n : Nat) : allW t n = preW t n ++ lev t n := by
  cases n with
  | zero => rfl
  | succ n => rfl
theorem lev_exp (t n : Nat) : lev t (n + 1) = (lev t n).flatMap (expW t) := rfl
theorem expW_len (t : Nat) (w : List UInt8) : (expW t w).length = t := by unfold expW; simp
theorem expW_take (t j : Nat) (w : List UInt8) (h : j < t) : (expW t w).take (j + 1) = (expW t w).take j ++ [w ++ [UInt8.ofNat j]] := by
  rw [List.take_succ_eq_append_getElem (by rw [expW_len]; exact h)]
  unfold expW; simp
theorem flat_take {α β : Type} (l : List α) (f : α → List β) (i : Nat) (h : i < l.length) : (l.take (i + 1)).flatMap f = (l.take i).flatMap f ++ f l[i] := by
  rw [List.take_succ_eq_append_getElem h, List.flatMap_append]; simp
/-- What lies in the list, in the midst of a level. -/
def midW (t n i j : Nat) : List (List UInt8) := allW t n ++ (((lev t n).take i).flatMap (expW t) ++ (expW t ((lev t n).getD i [])).take j)
theorem midW_zero (t n : Nat) : midW t n 0 0 = allW t n := by unfold midW; simp
theorem midW_step (t n i j : Nat) (h : j < t) : midW t n i (j + 1) = midW t n i j ++ [(lev t n).getD i [] ++ [UInt8.ofNat j]] := by
  unfold midW; rw [expW_take t j _ h]; simp [List.append_assoc]
theorem midW_next (t n i : Nat) (h : i < (lev t n).length) : midW t n i t = midW t n (i + 1) 0 := by
  unfold midW
  rw [flat_take _ _ i h]
  have e : (lev t n).getD i [] = (lev t n)[i] := by simp [List.getD, h]
  rw [e, List.take_of_length_le (l := expW t (lev t n)[i]) (by rw [expW_len]; exact Nat.le_refl _)]
  simp
theorem midW_end (t n : Nat) : midW t n (lev t n).length 0 = allW t (n + 1) := by
  unfold midW
  rw [List.take_length]
  simp [allW, lev_exp]
theorem midW_get (t n i j : Nat) (h : i < (lev t n).length) : (midW t n i j)[(preW t n).length + i]? = some ((lev t n)[i]) := by
  unfold midW
  rw [allW_pre, List.append_assoc, List.getElem?_append_right (by omega), List.getElem?_append_left (by omega)]
  simp [h]
theorem midW_len (t n i j : Nat) (hij : i < (lev t n).length ∨ j = 0) : (midW t n i j).length ≤ (allW t (n + 1)).length := by
  have h1 : (((lev t n).take i).flatMap (expW t) ++ (expW t ((lev t n).getD i [])).take j).length ≤ (lev t (n + 1)).length := by
    rw [lev_exp]
    by_cases h : i < (lev t n).length
    · have e : (lev t n).getD i [] = (lev t n)[i] := by simp [List.getD, h]
      have h2 : (lev t n).flatMap (expW t) = ((lev t n).take i).flatMap (expW t) ++ (expW t (lev t n)[i] ++ ((lev t n).drop (i + 1)).flatMap (expW t)) := by
        rw [← List.append_assoc, ← flat_take _ _ i h, ← List.flatMap_append, List.take_append_drop]
      rw [h2, e]
      simp only [List.length_append, List.length_take]
      omega
    · have e : j = 0 := by omega
      rw [List.take_of_length_le (by omega), e]
      simp
  unfold midW
  simp only [allW, List.length_append] at *
  omega
theorem lev_mono {t n : Nat} (h : lev t n = []) : ∀ m, n ≤ m → lev t m = [] := by
  intro m hm
  induction m with
  | zero =>
    have : n = 0 := by omega
    subst this; exact h
  | succ m ih =>
    by_cases e : n = m + 1
    · subst e; exact h
    · rw [lev_exp, ih (by omega)]; rfl
theorem allW_stop {t n : Nat} (h : lev t (n + 1) = []) : ∀ k, n ≤ k → allW t k = allW t n := by
  intro k hk
  induction k with
  | zero =>
    have : n = 0 := by omega
    subst this; rfl
  | succ k ih =>
    by_cases e : n = k + 1
    · subst e; rfl
    · rw [allW, ih (by omega), lev_mono h (k + 1) (by omega), List.append_nil]
theorem allW_le {t n k : Nat} (h : n ≤ k) : (allW t n).length ≤ (allW t k).length := by
  induction k with
  | zero =>
    have : n = 0 := by omega
    subst this; exact Nat.le_refl _
  | succ k ih =>
    by_cases e : n = k + 1
    · subst e; exact Nat.le_refl _
    · have := ih (by omega)
      simp only [allW, List.length_append]; omega

set_option maxHeartbeats 2000000 in
set_option maxRecDepth 100000 in
theorem all18_any (t k : Nat) (w : World) (ht : t ≤ 256) (hk : k ≤ 1000) (hl : (allW t k).length ≤ 4000) :
    Calls Try.prog 26 #[.int .i64 t, .int .i64 k] w fun e w' => (∃ v, e = .returned v ∧ Own w' w.heap.size 9 v (wsv (allW t k))) ∧ Below w.heap.size w w' := by
  have hv0 : Hid (Own (w.alloc (.cells #[.string ⟨#[]⟩] 9)) w.heap.size 9 (.slice (some ⟨w.heap.size, 0, none⟩) 1 1) (wsv (allW t 0))) := by
    have := World.ownsRow_lit (base := w.heap.size) (e := 9) (size := 1) w #[.string ⟨#[]⟩] 1 (Nat.le_refl _) (by unfold maxLen; omega) rfl
    exact this
  have hb0 : Hid (Below w.heap.size w (w.alloc (.cells #[.string ⟨#[]⟩] 9))) := (Below.refl _ _).alloc (Nat.le_refl _) _
  have Hl := hide hl
  clear hl
  go_enter Try.func26, Try.ntmps26
  go_wp2_with fail
  all_goals first | (exfalso; omega) | skip
  go_loopw [5, 6, 7] (fun o fr n V => ∃ W, W = V ∧ Below w.heap.size w W ∧ ∃ m : Nat, m ≤ k ∧ n = .int .i64 (m + 1) ∧ fr = .int .i64 ((preW t m).length : Nat) ∧ Own W w.heap.size 9 o (wsv (allW t m))) (fun _ _ n _ => k + 1 - (intOf n).toNat)
  case atStart => exact ⟨_, rfl, hb0.out, 0, by omega, rfl, rfl, hv0.out⟩
  case round =>
    clear hv0 hb0
    obtain ⟨W, rfl, hb, m, hm, rfl, rfl, ho⟩ := hrel
    have hlm := allW_le (t := t) hm
    have Hpre : Hid ((allW t m).length = (preW t m).length + (lev t m).length) := by unfold Hid; rw [allW_pre, List.length_append]
    have hpre1 : (preW t m).length ≤ (allW t m).length := by rw [Hpre.out]; omega
    obtain ⟨A, c, he, q1, q2, q3, -⟩ := id ho.form
    rw [List.length_map] at he q1
    subst he
    have HO := hide ho; have Hb := hide hb
    have hll := Hl.out
    have hbs := hb.size
    clear ho hb q3
    by_cases hlt : m < k
    · have hln := allW_le (t := t) (show m + 1 ≤ k by omega)
      have hdk : decide ((m : Int) + 1 ≤ (k : Int)) = true := decide_eq_true (by omega)
      go_wp2_with fail
      all_goals first | (exfalso; omega) | skip
      go_loopw [5, 9] (fun o y V => ∃ U, U = V ∧ Below w.heap.size w U ∧ ∃ i : Nat, i ≤ (lev t m).length ∧ y = .int .i64 (((preW t m).length : Int) + (i : Int)) ∧ Own U w.heap.size 9 o (wsv (midW t m i 0))) (fun _ y _ => (allW t m).length - (intOf y).toNat)
      case atStart => exact ⟨_, rfl, Hb.out, 0, by omega, by simp, by rw [midW_zero]; exact HO.out⟩
      case round =>
        clear HO Hb hbs
        obtain ⟨U, rfl, hb, i, hi, rfl, ho⟩ := hrel
        obtain ⟨A, c, he, q1, q2, q3, -⟩ := id ho.form
        rw [List.length_map] at he q1
        subst he
        have hml := midW_len t m i 0 (.inr rfl)
        have hpi : (preW t m).length + i ≤ (allW t m).length := by rw [Hpre.out]; omega
        by_cases hil : i < (lev t m).length
        · have hpi2 : (preW t m).length + i < (allW t m).length := by rw [Hpre.out]; omega
          have hd : decide (((preW t m).length : Int) + (i : Int) < ((allW t m).length : Int)) = true := decide_eq_true (by omega)
          have HO := hide ho; have Hb := hide hb
          clear ho hb q3
          go_wp2_with fail
          go_loopw [5, 10] (fun o y V => ∃ U2, U2 = V ∧ Below w.heap.size w U2 ∧ ∃ j : Nat, j ≤ t ∧ y = .int .i64 j ∧ Own U2 w.heap.size 9 o (wsv (midW t m i j))) (fun _ y _ => t - (intOf y).toNat)
          case atStart => exact ⟨_, rfl, Hb.out, 0, by omega, rfl, HO.out⟩
          case round =>
            clear HO Hb
            obtain ⟨U2, rfl, hb, j, hj, rfl, ho⟩ := hrel
            obtain ⟨A, c, he, q1, q2, q3, -⟩ := id ho.form
            rw [List.length_map] at he q1
            subst he
            have hml := midW_len t m i j (.inl hil)
            by_cases hjt : j < t
            · have hget := midW_get t m i j hil
              obtain ⟨b, off, rfl, hbb, hcs⟩ := q3.at_ (k := (preW t m).length + i) (by rw [List.length_map]; exact (List.getElem?_eq_some_iff.1 hget).1)
              have c1 := hcs ((preW t m).length + i) _ (by rw [List.getElem?_map, hget]; rfl)
              have hlt3 : (preW t m).length + i < (midW t m i j).length := (List.getElem?_eq_some_iff.1 hget).1
              have HO := hide ho; have hUb := hide hb
              clear ho hb q3 hcs hget
              obtain ⟨X, hX⟩ : ∃ X : ByteArray, X = ⟨(lev t m)[i].toArray⟩ := ⟨_, rfl⟩
              have c1' : U2.cell? ⟨b, off + ((preW t m).length + i), none⟩ = some (.string X) := by rw [hX]; exact c1
              obtain ⟨cb, hcb⟩ : ∃ cb : UInt8, cb = UInt8.ofNat j := ⟨_, rfl⟩
              have hcb2 : IntKind.u8.wrap (j : Int) = (cb.toNat : Int) := by
                rw [hcb, UInt8.toNat_ofNat']
                show (j : Int) % 256 = _
                omega
              have hcv : ∀ (W : World) (b0 : Nat), W.cell? ⟨b0, 0, none⟩ = some (.int .u8 (IntKind.u8.wrap (j : Int))) → (convert 56 9 (.slice (some ⟨b0, 0, none⟩) 1 1)).run Try.prog W = .ok (.string ⟨#[cb]⟩) W := by
                intro W b0 hW
                have := run_convert_bytes_back (P := Try.prog) W 56 9 5 ⟨b0, 0, none⟩ 1 [cb] Try.underlying56 Try.underlying5 Try.underlying9 (fun y hy => by
                  have hj0 : y = 0 := by simpa using hy
                  subst hj0
                  rw [hcb2] at hW
                  simpa [Addr.add] using hW)
                simpa using this
              have hcv1 := hcv (U2.alloc (.cells #[.int .u8 (IntKind.u8.wrap (j : Int))] 5)).drew U2.heap.size ((Blk.new U2 5 #[.int .u8 (IntKind.u8.wrap (j : Int))]).cell 0)
              have hXs : X.size ≤ 1000 := by
                have h1 := ((mem_lev ht m _).1 (List.getElem_mem hil)).1
                rw [hX]; show (lev t m)[i].toArray.size ≤ 1000
                rw [List.size_toArray]; omega
              have hsz : (X ++ ⟨#[cb]⟩ : ByteArray).size = X.size + 1 := by rw [ByteArray.size_append]; rfl
              have hno : (9223372036854775807 < X.size + 1) = False := eq_false (by omega)
              have Hcell : Hid (((U2.alloc (.cells #[.int .u8 (IntKind.u8.wrap (j : Int))] 5)).alloc (.cells #[.string (X ++ ⟨#[cb]⟩)] 9)).drew.cell? ⟨U2.heap.size + 1, 0, none⟩ = some (.string (X ++ ⟨#[cb]⟩))) := by
                have h1 := (Blk.new (U2.alloc (.cells #[.int .u8 (IntKind.u8.wrap (j : Int))] 5)) 9 #[.string (X ++ ⟨#[cb]⟩)]).cell 0
                have e1 : (U2.alloc (.cells #[.int .u8 (IntKind.u8.wrap (j : Int))] 5)).heap.size = U2.heap.size + 1 := by simp
                rw [e1] at h1
                exact h1
              have Hstep : Hid (wsv (midW t m i (j + 1)) = wsv (midW t m i j) ++ [.string (X ++ ⟨#[cb]⟩)]) := by
                have e : (lev t m).getD i [] = (lev t m)[i] := by simp [List.getD, hil]
                have e2 : (X ++ ⟨#[cb]⟩ : ByteArray) = ⟨((lev t m)[i] ++ [UInt8.ofNat j]).toArray⟩ := by
                  apply ba_ext
                  rw [ByteArray.data_append, Array.toList_append, hX, hcb]
                unfold Hid
                rw [midW_step t m i j hjt, e, e2, wsv, List.map_append]
                rfl
              have HX := hide hX
              have Hcb := hide hcb
              clear c1 hX hcb hcb2 hcv
              have hUs := hUb.out.size
              have hx1 : (0 : Int) ≤ ((preW t m).length : Int) + (i : Int) := by omega
              have hx2 : ((preW t m).length : Int) + (i : Int) < ((midW t m i j).length : Int) := by omega
              have hx3 : (((preW t m).length : Int) + (i : Int)).toNat = (preW t m).length + i := by omega
              go_wp2_with fail
              all_goals first | (exfalso; omega) | skip
              go_region_law ((refine step_push (by rfl) _ _ _ (by rfl) w.heap.size 9 (.string ByteArray.empty) 16 Try.underlying22 infoS rfl _ _ (by rfl) (by exact Own.heap ((HO.out.alloc _).alloc _) rfl) _ _ (by rfl) (by exact Hcell.out) rfl (by rw [List.length_map]; omega) (by decide) (by simp; omega) ?_; intro g cap w3 hw3 hg3))
              all_goals
                rw [List.length_map] at hw3
                have hbel : Below w.heap.size w w3 := by
                  have hg3' : ((U2.alloc (.cells #[.int .u8 (IntKind.u8.wrap (j : Int))] 5)).alloc (.cells #[.string (X ++ ⟨#[cb]⟩)] 9)).drew.grownBy w3 (Value.slice (some ⟨b, off, none⟩) (midW t m i j).length c).ownBlock := hg3
                  exact Below.of_grown (Nat.le_refl _) (bdrew ((hUb.out.alloc hUs _).alloc (by simp; omega) _) 1) hg3' (fun q hq => (HO.out.block q hq).1)
                have Hw3 := hide hw3; have Hbel := hide hbel
                clear hw3 hg3 hbel
                go_wp2_with fail
                go_roundw
                case rel => exact ⟨_, rfl, Hbel.out, j + 1, by omega, by go_num, by rw [Hstep.out]; exact Hw3.out⟩
                case measure => simp [intOf]; omega
            · obtain rfl : j = t := by omega
              have HO := hide (show Own U2 w.heap.size 9 (.slice A (midW j m i j).length c) (wsv (midW j m (i + 1) 0)) by rw [← midW_next j m i hil]; exact ho)
              have hUb := hide hb
              clear ho hb q3
              go_wp2_with fail
              all_goals first | (exfalso; omega) | skip
              go_roundw
              case rel => exact ⟨_, rfl, hUb.out, i + 1, by omega, by go_num, HO.out⟩
              case measure => simp [intOf]; omega
        · obtain rfl : i = (lev t m).length := by omega
          have hpi2 : (allW t m).length ≤ (preW t m).length + (lev t m).length := by rw [Hpre.out]; omega
          have hd : decide (((preW t m).length : Int) + ((lev t m).length : Int) < ((allW t m).length : Int)) = false := decide_eq_false (by omega)
          have e1 := midW_end t m
          have Hex : (allW t (m + 1)).length = (allW t m).length + (lev t (m + 1)).length := by rw [allW, List.length_append]
          rw [e1] at ho q1 ⊢
          rw [Hex] at ho q1 hln ⊢
          have HO := hide ho; have hUb := hide hb
          clear ho hb q3 e1
          by_cases hz : (lev t (m + 1)).length = 0
          · have Hst := hide (allW_stop (List.eq_nil_of_length_eq_zero hz) k hm)
            have Hst2 : Hid (allW t k = allW t (m + 1)) := Hst.out.trans (allW_stop (List.eq_nil_of_length_eq_zero hz) (m + 1) (by omega)).symm
            clear Hex
            go_wp2_with fail
            go_ret
            exact ⟨⟨_, rfl, by rw [Hst2.out]; exact HO.out⟩, hUb.out⟩
          · have hzb : (((allW t m).length : Int) + ((lev t (m + 1)).length : Int) == ((allW t m).length : Int)) = false := by rw [beq_eq_false_iff_ne]; omega
            clear Hex
            go_wp2_with fail
            go_roundw
            case rel => exact ⟨_, rfl, hUb.out, m + 1, by omega, by go_num, rfl, HO.out⟩
            case measure => simp [intOf]; omega
    · obtain rfl : m = k := by omega
      go_wp2_with fail
      all_goals first | (exfalso; omega) | skip
      go_ret
      exact ⟨⟨_, rfl, HO.out⟩, Hb.out⟩
end Go.Proofs.Ythpjjlmgdalpaaa
