/- wset.Of, slices.Concat, wset.Union. -/
import Derived.Test.YthpjjlmgdalpaaaC1
import Derived.Lib.AppendZerosOnto
namespace Go.Proofs.Ythpjjlmgdalpaaa
open Go.RowKit Go.Sort Go.Lib

/-! ### sorted, each once -/
def srt (l : List (List UInt8)) : List (List UInt8) := Lib.compact (l.mergeSort fun x y => decide (x ≤ y))
def Asc (l : List (List UInt8)) : Prop := l.Pairwise (· < ·)
theorem cu_spec (zs : List (List UInt8)) (hs : zs.Pairwise (· ≤ ·)) : ∀ m, m ≤ zs.length → Asc (compactUpTo zs.toArray m) ∧ ∀ x, x ∈ compactUpTo zs.toArray m ↔ x ∈ zs.take m := by
  intro m
  induction m with
  | zero => intro _; exact ⟨List.Pairwise.nil, by simp [compactUpTo]⟩
  | succ m ih =>
    intro hm
    obtain ⟨h1, h2⟩ := ih (by omega)
    have hml : m < zs.length := by omega
    have e1 : zs.toArray[m]! = zs[m] := by rw [getElem!_pos _ m (by simpa using hml)]; simp
    have hle : ∀ j (hj : j < zs.length), j < m → zs[j] ≤ zs[m] := fun j hj hjm => List.pairwise_iff_getElem.1 hs j m hj hml hjm
    rw [compactUpTo_succ, e1]
    by_cases hk : keeps zs.toArray m = true
    · rw [if_pos hk]
      refine ⟨?_, fun x => ?_⟩
      · unfold Asc
        rw [List.pairwise_append]
        refine ⟨h1, by simp, fun a ha b hb => ?_⟩
        obtain rfl : b = zs[m] := by simpa using hb
        obtain ⟨j, hj, rfl⟩ := List.mem_iff_getElem.1 ((h2 a).1 ha)
        rw [List.length_take] at hj
        rw [List.getElem_take]
        have hm0 : m ≠ 0 := by omega
        unfold keeps at hk
        have hk' := of_decide_eq_true hk
        have e2 : zs.toArray[m - 1]! = zs[m - 1] := by rw [getElem!_pos _ (m - 1) (by simp; omega)]; simp
        rw [e1, e2] at hk'
        have hne : zs[m] ≠ zs[m - 1] := hk'.resolve_left hm0
        have hle1 : zs[m - 1] ≤ zs[m] := hle (m - 1) (by omega) (by omega)
        have hlt : zs[m - 1] < zs[m] := by
          rcases List.le_total zs[m] zs[m - 1] with h | h
          · exact absurd (List.le_antisymm h hle1) hne
          · exact List.not_le.1 fun hc => hne (List.le_antisymm hc hle1)
        by_cases hjm : j = m - 1
        · subst hjm; exact hlt
        · have h3 : zs[j] ≤ zs[m - 1] := List.pairwise_iff_getElem.1 hs j (m - 1) (by omega) (by omega) (by omega)
          exact List.lt_of_le_of_lt h3 hlt
      · rw [List.mem_append, h2, mem_take_succ _ _ _ hml]; simp
    · rw [if_neg hk, List.append_nil]
      refine ⟨h1, fun x => ?_⟩
      rw [h2, mem_take_succ _ _ _ hml]
      constructor
      · exact .inl
      · rintro (h | rfl)
        · exact h
        · unfold keeps at hk
          have hk' : ¬ (m = 0 ∨ zs.toArray[m]! ≠ zs.toArray[m - 1]!) := fun hc => hk (decide_eq_true hc)
          have hm0 : m ≠ 0 := fun e => hk' (.inl e)
          have e2 : zs.toArray[m - 1]! = zs[m - 1] := by rw [getElem!_pos _ (m - 1) (by simp; omega)]; simp
          rw [e1, e2] at hk'
          have heq : zs[m] = zs[m - 1] := Classical.not_not.1 fun hc => hk' (.inr hc)
          rw [heq]
          exact List.mem_iff_getElem.2 ⟨m - 1, by rw [List.length_take]; omega, by rw [List.getElem_take]⟩
theorem sorted_ms (l : List (List UInt8)) : (l.mergeSort fun x y => decide (x ≤ y)).Pairwise (· ≤ ·) := by
  have := List.pairwise_mergeSort (le := fun x y : List UInt8 => decide (x ≤ y)) (fun a b c h1 h2 => by
    simp only [decide_eq_true_iff] at *; exact List.le_trans h1 h2) (fun a b => by
    simp only [Bool.or_eq_true, decide_eq_true_iff]; exact List.le_total a b) l
  exact this.imp fun h => by simpa using h
theorem srt_asc (l : List (List UInt8)) : Asc (srt l) := (cu_spec _ (sorted_ms l) _ (Nat.le_refl _)).1
theorem srt_mem (l : List (List UInt8)) (x : List UInt8) : x ∈ srt l ↔ x ∈ l := by
  have := (cu_spec _ (sorted_ms l) _ (Nat.le_refl _)).2 x
  rw [List.take_length] at this
  unfold srt Lib.compact
  rw [this, List.mem_mergeSort]
theorem srt_len (l : List (List UInt8)) : (srt l).length ≤ l.length := by
  unfold srt
  exact Nat.le_trans (compact_length_le _) (by simp)
theorem srt_nil : srt [] = [] := by
  have := srt_len []
  exact List.eq_nil_of_length_eq_zero (by simpa using this)

set_option maxRecDepth 8000 in
theorem wof_any (v : Value) (l : List (List UInt8)) (w : World) (hv : SV w w.heap.size v (wsv l)) (hl : l.length ≤ 1000000000) :
    Calls Try.prog 113 #[v] w fun e w' => (∃ x, e = .returned x ∧ Own w' w.heap.size 9 x (wsv (srt l))) ∧ Below w.heap.size w w' := by
  obtain ⟨A, c, rfl, hc1, hc2, hA, hAn⟩ := hv
  rw [List.length_map] at hc1 ⊢
  by_cases h0 : l = []
  · subst h0
    rw [srt_nil]
    cases A with
    | none =>
      obtain rfl := hAn rfl
      go_enter Try.func113, Try.ntmps113
      go_wp2_with (first
        | (go_at_call 137; refine (Try.slices_Clone_string_nil _ _ _).mono ?_; rintro e w1 ⟨rfl, rfl⟩)
        | (go_at_call 138; refine (Try.slices_Sort_string_none _ _ _).mono ?_; rintro e w1 ⟨rfl, rfl⟩)
        | (go_at_call 139; refine (Try.slices_Compact_string_empty _ _ _).mono ?_; rintro e w1 ⟨rfl, rfl⟩))
      go_ret
      exact ⟨⟨_, rfl, Own.nil _ _ _⟩, Below.refl _ _⟩
    | some a =>
      have HZ := hide (Try.slices_Clone_string_zero a c w)
      clear hA
      go_enter Try.func113, Try.ntmps113
      go_wp2_with (first
        | (go_at_call 137; refine HZ.out.mono ?_; rintro e w1 ⟨v', rfl, ho, hne, hb⟩; obtain ⟨A', c', rfl, -, -, -, -⟩ := Own.form (w := w1) (xs := []) ho; have Ho := hide ho; clear ho hne)
        | (go_at_call 138; refine (Try.slices_Sort_string_none _ _ _).mono ?_; rintro e w2 ⟨rfl, hww⟩; rw [hww]; clear hww)
        | (go_at_call 139; refine (Try.slices_Compact_string_empty _ _ _).mono ?_; rintro e w2 ⟨rfl, hww⟩; rw [hww]; clear hww))
      go_ret
      exact ⟨⟨_, rfl, Ho.out⟩, hb⟩
  · have hpos : 0 < l.length := List.length_pos_iff.2 h0
    obtain ⟨b, off, rfl, hb, hcs⟩ := hA.at_ (k := 0) (by simpa using hpos)
    obtain ⟨zs, hzs⟩ : ∃ zs : List ByteArray, zs = l.map (fun x => ⟨x.toArray⟩) := ⟨_, rfl⟩
    have hzl : zs.length = l.length := by rw [hzs]; simp
    have hzm : zs.map (·.data.toList) = l := by rw [hzs, List.map_map]; exact List.map_id' _ |>.symm ▸ (by simp)
    have HZ := hide (Try.slices_Clone_string b off l.length c zs w (by omega) (by omega) (fun j hj => by
      rw [hcs j (.string zs[j]) (by rw [List.getElem?_map, List.getElem?_eq_getElem (by omega : j < l.length)]; simp [hzs, Proofs.encStr])]
      simp [List.getD, hj]))
    rw [← hzl, List.take_length, hzl, ← map_encStr, hzm] at HZ
    have hlb : l.length ≤ 9223372036854775807 := by omega
    clear hA hcs hzs hzm hzl
    have Hfin : ∀ (w1 : World) (v' : Value), w1.ownsRow w.heap.size 9 1 v' l.length (wsv l) → v' ≠ .slice none 0 0 → Below w.heap.size w w1 →
        ∃ g cap, v' = .slice (some ⟨g, 0, none⟩) l.length cap ∧ Calls Try.prog 138 #[.slice (some ⟨g, 0, none⟩) l.length cap] w1 fun e w2 => e = .returned (.tuple #[]) ∧ Below w.heap.size w w2 ∧
          Calls Try.prog 139 #[.slice (some ⟨g, 0, none⟩) l.length cap] w2 fun e w3 => (∃ x, e = .returned x ∧ Own w3 w.heap.size 9 x (wsv (srt l))) ∧ Below w.heap.size w w3 := by
      intro w1 v' ho hne hb1
      obtain ⟨g, cap, rfl, hg1, hg2, hg3, hg4, hg5, hH⟩ := holds_of_ownsRow ho hne
      refine ⟨g, cap, rfl, (Try.slices_Sort_string g 0 cap l w1 hH hg2 (by omega)).mono ?_⟩
      rintro e w2 ⟨rfl, n, os, rfl⟩
      have hb2 : Below w.heap.size w (grow (putRow Proofs.encStr (Sort.ahead w1 n) g 0 (l.mergeSort fun x y => decide (x ≤ y)).toArray) os) := hb1.grown (grownBy_sorted _) hb1.size (fun j hj => by cases hj; exact hg1)
      refine ⟨rfl, hb2, ?_⟩
      rcases ho.2 with ⟨e0, _⟩ | ⟨g', cap', cur, e0, f1, f2, f3, f4, f5, f6⟩
      · cases e0
      · injection e0 with e1 _ e3
        injection e1 with e1; injection e1 with e1
        subst e1; subst e3
        have hms : (l.mergeSort fun x y => decide (x ≤ y)).length = l.length := by simp
        have ho2 := ownsRow_sorted (w := w1) (n := n) (os := os) (ss := l) (ts := l.mergeSort fun x y => decide (x ≤ y)) hms f1 f2 f3 f4 f5
        obtain ⟨g', cap', e0, q1, q2, q3, q4, q5, hH2⟩ := holds_of_ownsRow ho2 (by intro h; cases h)
        injection e0 with e1 _ e3
        injection e1 with e1; injection e1 with e1
        subst e1; subst e3
        have hcm := Try.slices_Compact_string g 0 cap (l.mergeSort fun x y => decide (x ≤ y)) _ hH2 (by omega) (by omega)
        rw [hms] at hcm
        refine hcm.mono ?_
        rintro e w3 ⟨rfl, q, rfl⟩
        have hcl : (srt l).length ≤ l.length := srt_len l
        refine ⟨⟨_, rfl, ?_⟩, below_putRow hb2 hg1⟩
        have h3 := ownsRow_putRow (enc := Proofs.encStr) (q := q) (k := (srt l).length) (ys := srt l ++ List.replicate (l.length - (srt l).length) []) ho2 (by simp; omega) hcl
        rw [List.take_left] at h3
        unfold Own
        rw [List.length_map]
        exact h3
    have HF := hide Hfin
    clear Hfin
    go_enter Try.func113, Try.ntmps113
    go_wp2_with (first
      | (go_at_call 137; refine HZ.out.mono ?_; rintro e w1 ⟨v', rfl, ho, hne, hb1⟩; obtain ⟨g, cap, rfl, hcall⟩ := HF.out w1 v' ho hne hb1; have HC := hide hcall; clear ho hne hb1 hcall)
      | (go_at_call 138; refine HC.out.mono ?_; rintro e w2 ⟨rfl, hb2, hcall2⟩; have HC2 := hide hcall2; clear hb2 hcall2)
      | (go_at_call 139; refine HC2.out.mono ?_; rintro e w3 ⟨⟨x, rfl, ho⟩, hb3⟩; have HO := hide ho; clear ho))
    go_ret
    exact ⟨⟨_, rfl, HO.out⟩, hb3⟩
end Go.Proofs.Ythpjjlmgdalpaaa
