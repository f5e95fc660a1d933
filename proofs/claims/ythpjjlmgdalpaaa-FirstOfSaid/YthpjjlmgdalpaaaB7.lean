/- Counting maps with string keys; gram.distinct. -/
import Derived.Test.YthpjjlmgdalpaaaB6
import Derived.Maps.OwnSet
import Derived.Maps.RangeWalk
namespace Go.Proofs.Ythpjjlmgdalpaaa
open Go.RowKit Go.Maps Go.WideMaps

theorem lawS : Keyed Try.prog 9 := string_keyed Try.underlying9
theorem zeroI (w : World) : (zeroValue 3).run Try.prog w = .ok (.int .i64 0) w := by kernel_rfl
def i64D (n : Int) : DataW Unit := .lit (.int .i64 n)
/-- Block b is a map of texts that counts f, with at most n entries. -/
def CMap (w : World) (b n : Nat) (f : List UInt8 → Int) : Prop := ∃ D : DataW Unit, w.ownsMap Try.prog 9 (plainElem Try.prog 3) b n D ∧ ∀ l, D.atKey (.string l) (i64D 0) = i64D (f l)
def upd {α β : Type} [DecidableEq α] (f : α → β) (a : α) (b : β) : α → β := fun x => if x = a then b else f x
section
variable {w w' : World} {b n : Nat} {f : List UInt8 → Int}
theorem CMap.made (w : World) : CMap (w.alloc (.map #[] 0)) w.heap.size 0 (fun _ => 0) := ⟨_, World.ownsMap_made _ _ _ _, fun _ => rfl⟩
theorem CMap.kept {row : Option Nat} (h : CMap w b n f) (hg : w.grownBy w' row) (hne : some b ≠ row) : CMap w' b n f := let ⟨D, h1, h2⟩ := h; ⟨D, h1.kept hg hne, h2⟩
theorem CMap.below {B : Nat} (h : CMap w b n f) (hb : Below B w w') (hB : b < B) : CMap w' b n f := by
  obtain ⟨D, ⟨es, clock, h1, h2⟩, h3⟩ := h
  exact ⟨D, ⟨es, clock, (hb.block b hB).trans h1, h2⟩, h3⟩
theorem CMap.lt (h : CMap w b n f) : b < w.heap.size := let ⟨_, h1, _⟩ := h; h1.lt
theorem CMap.fn {f' : List UInt8 → Int} (h : CMap w b n f) (e : ∀ l, f l = f' l) : CMap w b n f' := let ⟨D, h1, h2⟩ := h; ⟨D, h1, fun l => by rw [h2, e]⟩
theorem CMap.setCell (h : CMap w b n f) {a : Addr} (ha : b ≠ a.block) (u : Value) : CMap (w.setCell a u) b n f := let ⟨D, h1, h2⟩ := h; ⟨D, h1.setCell ha u, h2⟩
theorem CMap.drewN (h : CMap w b n f) (m : Nat) : CMap (w.drewN m) b n f := h
theorem CMap.heap (h : CMap w b n f) (hW : w'.heap = w.heap) : CMap w' b n f := by
  obtain ⟨D, ⟨es, clock, h1, h2⟩, h3⟩ := h
  exact ⟨D, ⟨es, clock, by rw [hW]; exact h1, h2⟩, h3⟩
theorem CMap.look (h : CMap w b n f) (s : ByteArray) (hs : s.size ≤ 9223372036854775807) : (Instr.lookup 145 (.map (some b)) (.string s) false).run Try.prog w = .ok (.int .i64 (f s.data.toList)) w := by
  obtain ⟨D, h1, h2⟩ := h
  obtain ⟨c, hrun, hat, _⟩ := h1.lookup_int lawS Try.underlying145 Try.underlying3 (zeroI _) (keyOf_string_mk Try.underlying9 (s := s) hs)
  have e := (h2 s.data.toList).symm.trans hat
  have : f s.data.toList = c := by simpa only [i64D, DataW.lit.injEq, Lit.int.injEq, true_and] using e
  rw [this]; exact hrun
theorem CMap.wp_update {ops : Array Oper} {rest : List Oper} {o : Oper} {a : Act} {Q : Exit → Act → World → Prop} (h : CMap w b n f)
    (hg : o.guard = none) (m x v : Operand) (hop : o.op = Op.mapUpdate 145 m x v) (hm : a.eval m = .map (some b)) (hn : n < 9223372036854775807) (s : ByteArray) (hx : a.eval x = .string s) (hs : s.size ≤ 9223372036854775807)
    (c : Int) (hv : a.eval v = .int .i64 c) (hc : -9223372036854775808 ≤ c ∧ c ≤ 9223372036854775807)
    (hK : ∀ w', CMap w' b (n + 1) (upd f s.data.toList c) → w.grownBy w' (some b) → wpList Try.prog ops Q rest (a.put o.dst undef) w') :
    wpList Try.prog ops Q (o :: rest) a w := by
  obtain ⟨D, h1, h2⟩ := h
  refine wpList_mapUpdate_own w hg m x v 145 hop 9 3 lawS Try.underlying145 _ b n D hm h1 hn _ _ _ hx hv (keyOf_string_mk Try.underlying9 (s := s) hs) (i64D c) [] (plainElem_int Try.underlying3 (WalkArith.wf_i64 (by omega))) fun w' r1 r2 => hK w' ⟨_, r1, fun l => ?_⟩ r2
  unfold upd
  split
  · next e => subst e; exact atKey_put_same h1.isMap (by trivial) _ _
  · next e => rw [atKey_put_other (by intro he; injection he with he; exact e he)]; exact h2 l
end

/-- Whether a text is in a list, as a number. -/
def cnt (l : List ByteArray) (s : List UInt8) : Int := if l.any (fun x => decide (x.data.toList = s)) then 1 else 0
theorem ba_inj {a b : ByteArray} : a.data.toList = b.data.toList ↔ a = b := ⟨ba_ext, fun h => by rw [h]⟩
theorem cnt_yes {l : List ByteArray} {s : ByteArray} (h : s ∈ l) : cnt l s.data.toList = 1 := by
  unfold cnt; rw [if_pos]; rw [List.any_eq_true]; exact ⟨s, h, by simp⟩
theorem cnt_no {l : List ByteArray} {s : ByteArray} (h : s ∉ l) : cnt l s.data.toList = 0 := by
  unfold cnt; rw [if_neg]; rw [List.any_eq_true]; rintro ⟨x, hx, e⟩
  rw [decide_eq_true_iff, ba_inj] at e; subst e; exact h hx
theorem cnt_snoc (l : List ByteArray) (x : ByteArray) (s : List UInt8) : upd (cnt l) x.data.toList 1 s = cnt (l ++ [x]) s := by
  unfold upd cnt
  rw [List.any_append]
  by_cases e : s = x.data.toList
  · subst e; simp
  · have : decide (x.data.toList = s) = false := decide_eq_false (fun h => e h.symm)
    rw [if_neg e]; simp only [List.any_cons, this, List.any_nil, Bool.or_false]

set_option maxRecDepth 8000 in
theorem distinct_any (fn : Nat) (eg : ∀ args w, (callFunc fn args).run Try.prog w = .ok (.enter fn args) w) (p : ByteArray → Bool) (hp : ∀ (s : ByteArray) (W : World), s.size ≤ 9223372036854775807 → Calls Try.prog fn #[.string s] W fun e w' => e = .returned (.bool (p s)) ∧ W = w')
    (A : Option Addr) (c : Nat) (l : List ByteArray) (w : World) (hA : SlAt w w.heap.size A (strs l)) (hc : l.length ≤ c) (hm : c ≤ 9223372036854775807) (hs : ∀ s ∈ l, s.size ≤ 9223372036854775807) :
    Calls Try.prog 93 #[.slice A l.length c, .func (.func fn) #[] #[]] w fun e w' => e = .returned (.bool (bool ((∀ s ∈ l, p s = true) ∧ l.Nodup))) ∧ Below w.heap.size w w' := by
  have Hp := hide hp
  have HA := hide hA
  have Hs := hide hs
  clear hp hA hs
  have hmm := @run_makeMap Try.prog
  go_enter Try.func93, Try.ntmps93
  go_wp2
  go_loopw [11] (fun i V => ∃ W, W = V ∧ Below w.heap.size w W ∧ ∃ k : Nat, k ≤ l.length ∧ i = .int .i64 k ∧ CMap W w.heap.size k (cnt (l.take k)) ∧ Hid ((∀ s ∈ l.take k, p s = true) ∧ ∀ a (h : a < l.length), a < k → idx l l[a] = a)) (fun i _ => l.length - (intOf i).toNat)
  case atStart => exact ⟨_, rfl, (Below.refl _ _).alloc (Nat.le_refl _) _, 0, Nat.zero_le _, rfl, CMap.made w, by simp [Hid]⟩
  case round =>
    obtain ⟨W, rfl, hb, k, hk, rfl, hcm, hall⟩ := hrel
    by_cases hlt : k < l.length
    · obtain ⟨b, off, rfl, hbb, hcs⟩ := HA.out.at_ (k := k) (by simpa using hlt)
      have c1 : W.cell? ⟨b, off + k, none⟩ = some (.string l[k]) := (hb.cell hbb).trans (hcs k _ (strs_at l k hlt))
      have s1 := Hs.out _ (List.getElem_mem hlt)
      clear hcs
      have hlk := hcm.look l[k] s1
      have Hcm := hide hcm
      have Hb := hide hb
      clear hcm hb
      cases hpk : p l[k]
      · have hno := hide (show ¬ ((∀ s ∈ l, p s = true) ∧ l.Nodup) from fun h => absurd (h.1 _ (List.getElem_mem hlt)) (by rw [hpk]; exact Bool.false_ne_true))
        go_wp2_with ((with_reducible refine calls_id ?_); refine (Hp.out l[k] _ s1).mono ?_; rintro e w' ⟨rfl, rfl⟩)
        go_ret
        exact ⟨ret_b (bool_false hno.out).symm, Hb.out⟩
      · by_cases hin : l[k] ∈ l.take k
        · rw [cnt_yes hin] at hlk
          have hno := hide (show ¬ ((∀ s ∈ l, p s = true) ∧ l.Nodup) from fun h => by
            have := (nodup_idx l).1 h.2 k hlt
            obtain ⟨j, hj, e⟩ := List.mem_iff_getElem.1 hin
            rw [List.length_take] at hj
            rw [List.getElem_take] at e
            have h2 := (nodup_idx l).1 h.2 j (by omega)
            rw [e, this] at h2
            omega)
          go_wp2_with ((with_reducible refine calls_id ?_); refine (Hp.out l[k] _ s1).mono ?_; rintro e w' ⟨rfl, rfl⟩)
          go_ret
          exact ⟨ret_b (bool_false hno.out).symm, Hb.out⟩
        · rw [cnt_no hin] at hlk
          have Hin := hide hin
          have Hpk := hide hpk
          clear hpk hin
          go_wp2_with (first | ((with_reducible refine calls_id ?_); refine (Hp.out l[k] _ s1).mono ?_; rintro e w' ⟨rfl, rfl⟩) | (at_mapUpdate; refine Hcm.out.wp_update rfl _ _ _ rfl rfl (by omega) l[k] rfl s1 _ rfl (by decide) ?_; intro w1 hcm1 hg1) | go_in)
          go_roundw
          case rel =>
            refine ⟨_, rfl, Hb.out.grown hg1 Hb.out.size (fun j hj => by cases hj; exact Nat.le_refl _), k + 1, by omega, by go_num, hcm1.fn fun s => ?_, ?_⟩
            · rw [List.take_succ_eq_append_getElem hlt]; exact cnt_snoc ..
            · refine ⟨fun s hs => ?_, fun a ha hak => ?_⟩
              · rcases (mem_take_succ _ _ _ hlt).1 hs with h | rfl
                · exact hall.out.1 s h
                · exact Hpk.out
              · by_cases e : a = k
                · subst e; exact idx_stop _ _ _ ha Hin.out rfl
                · exact hall.out.2 a ha (by omega)
          case measure => simp [intOf]; omega
    · obtain rfl : k = l.length := by omega
      have hyes := hide (show (∀ s ∈ l, p s = true) ∧ l.Nodup from by
        have := hall.out
        rw [List.take_length] at this
        exact ⟨this.1, (nodup_idx l).2 fun a ha => this.2 a ha ha⟩)
      clear hall hcm
      go_wp2_with fail
      go_ret
      exact ⟨ret_b (bool_true hyes.out).symm, hb⟩
end Go.Proofs.Ythpjjlmgdalpaaa
