/- The closures of Shortest and Reached. -/
import Derived.Test.YthpjjlmgdalpaaaB15
namespace Go.Proofs.Ythpjjlmgdalpaaa
open Go.RowKit

theorem sgn_set (S : List Int) (m : Nat) (n : Int) (hn : 0 ≤ n) : sgn (S.set m n) = (sgn S).set m true := by
  unfold sgn; rw [List.map_set, decide_eq_true hn]
theorem set_same {α : Type} (l : List α) (m : Nat) (x : α) (h : ∀ (hm : m < l.length), l[m] = x) : l.set m x = l := by
  by_cases hm : m < l.length
  · rw [← h hm, List.set_getElem_self]
  · rw [List.set_eq_of_length_le (by omega)]
theorem lens_set (S : List Int) (m : Nat) (n : Int) (h : Lens S) (h1 : -1 ≤ n ∧ n ≤ 1000000) : Lens (S.set m n) := by
  intro x hx
  rcases List.mem_or_eq_of_mem_set hx with h2 | rfl
  · exact h x h2
  · exact h1
theorem ints_set (S : List Int) (m : Nat) (n : Int) : (ints (S.set m n)).toArray = (ints S).toArray.setIfInBounds m (.int .i64 n) := by
  apply Array.ext'; simp [List.map_set]

def ShPost (ob : Nat) (S : List Int) (r : Rule) (W : World) (e : Ending) (W' : World) : Prop :=
  e = .returned (.tuple #[]) ∧ (∃ S' : List Int, S'.length = S.length ∧ Lens S' ∧ sgn S' = prodStep (sgn S) r ∧ Blk W' ob 3 (ints S').toArray) ∧ W.grownBy W' (some ob)

set_option maxRecDepth 8000 in
theorem shortest1_any (r : Rule) (C : Option Addr) (c qb qo ob : Nat) (S : List Int) (W : World) (hq : W.cell? ⟨qb, qo, none⟩ = some (.slice (some ⟨ob, 0, none⟩) S.length S.length)) (hqb : qb < W.heap.size) (hS : Blk W ob 3 (ints S).toArray) (hSb : Lens S)
    (hC : SlAt W W.heap.size C (ints r.right)) (hc : r.right.length ≤ c) (h0 : 0 ≤ r.left) (h1 : r.left < S.length) (h2 : r.right.length ≤ 64) (h3 : ∀ s ∈ r.right, s < S.length) (hSl : S.length ≤ 1000000) :
    Calls Try.prog 144 #[.agg #[.int .i64 r.left, .slice C r.right.length c], .pointer (some ⟨qb, qo, none⟩)] W (ShPost ob S r W) := by
  have hob := hS.lt
  have Hc := hide (sum_any C c r.right (W.alloc (.cells #[.int .i64 r.left, .slice C r.right.length c] 35)) ((hC.alloc (Nat.le_refl _) _).more (by simp)) hc h2 ob S (hS.alloc _) hSb h3 hSl)
  obtain ⟨m, hm⟩ := Int.eq_ofNat_of_zero_le h0
  have hml : m < S.length := by omega
  have HS := hide hS
  have Hsb := hide hSb
  have fz := (hS.alloc (.cells #[.int .i64 r.left, .slice C r.right.length c] 35)).frozen m
  have e2 : W.cell? ⟨ob, m, none⟩ = some (.int .i64 S[m]) := by rw [HS.out.cell m]; simp [hml]
  have Hst : Hid (∀ (S' : List Int), prodStep (sgn S) r = if r.right.all (okB (sgn S)) then (sgn S).set m true else sgn S) := by
    unfold Hid prodStep; rw [hm]; exact fun _ => rfl
  clear hS hSb hC h3
  rw [hm] at Hc fz h0 h1 ⊢
  clear hm
  generalize r.right.all (okB (sgn S)) = al at Hc Hst
  have Hgr : Hid (W.grownBy (W.alloc (.cells #[.int .i64 (m : Int), .slice C r.right.length c] 35)) (some ob)) := World.grownBy_alloc _ _ _
  have HSa := hide (HS.out.alloc (.cells #[.int .i64 (m : Int), .slice C r.right.length c] 35))
  have h0' : (0 : Int) ≤ (m : Int) := by omega
  go_enter Try.func144, Try.ntmps144
  go_wp2_with (go_at_call 145; refine Hc.out.mono ?_; rintro e w' ⟨⟨n, rfl, hn0, hn1, hn2⟩, rfl⟩; have Hn2 := hide hn2; clear hn2)
  all_goals first | (exfalso; omega) | skip
  · go_returns
    exact ⟨rfl, ⟨S.set m n, by simp, lens_set _ _ _ Hsb.out ⟨hn0, hn1⟩, by rw [sgn_set _ _ _ (by omega), Hst.out [], if_pos (Hn2.out.1 (by omega))], by rw [ints_set]; exact (HS.out.set_ m _).alloc _⟩, (Grown.set (World.grownBy.refl W _) m _).trans (World.grownBy_alloc _ _ _)⟩
  · go_returns
    refine ⟨rfl, ⟨S, rfl, Hsb.out, ?_, HSa.out⟩, Hgr.out⟩
    rw [Hst.out [], if_pos (Hn2.out.1 (by omega)), set_same]
    intro hm'
    simp only [sgn, List.getElem_map]
    exact decide_eq_true (by omega)
  · go_returns
    exact ⟨rfl, ⟨S.set m n, by simp, lens_set _ _ _ Hsb.out ⟨hn0, hn1⟩, by rw [sgn_set _ _ _ (by omega), Hst.out [], if_pos (Hn2.out.1 (by omega))], by rw [ints_set]; exact (HS.out.set_ m _).alloc _⟩, (Grown.set (World.grownBy.refl W _) m _).trans (World.grownBy_alloc _ _ _)⟩
  · go_returns
    refine ⟨rfl, ⟨S, rfl, Hsb.out, ?_, HSa.out⟩, Hgr.out⟩
    rw [Hst.out [], if_neg (fun h => by have := Hn2.out.2 h; omega)]

set_option maxRecDepth 8000 in
theorem reached1_any (r : Rule) (C : Option Addr) (c qb qo ob : Nat) (P : List Bool) (W : World) (hq : W.cell? ⟨qb, qo, none⟩ = some (.slice (some ⟨ob, 0, none⟩) P.length P.length)) (hqb : qb < W.heap.size) (hqo : qb ≠ ob) (hP : BB W ob P)
    (hC : SlAt W W.heap.size C (ints r.right)) (hCo : SlAt W ob C (ints r.right)) (hc : r.right.length ≤ c) (h0 : 0 ≤ r.left) (h1 : r.left < P.length) (h2 : r.right.length ≤ 64) (h3 : ∀ s ∈ r.right, s < P.length) (hPl : P.length ≤ 1000000) :
    Calls Try.prog 134 #[.agg #[.int .i64 r.left, .slice C r.right.length c], .pointer (some ⟨qb, qo, none⟩)] W fun e W' => e = .returned (.tuple #[]) ∧ BB W' ob (reachStep P r) ∧ W.grownBy W' (some ob) := by
  have hob := hP.lt
  obtain ⟨m, hm⟩ := Int.eq_ofNat_of_zero_le h0
  have hml : m < P.length := by omega
  have Hst : Hid (reachStep P r = r.right.foldl (reach1 m) P) := by unfold Hid reachStep; rw [hm]; rfl
  have H3 := hide h3
  rw [hm] at h0 h1 ⊢
  clear hm
  have Hgr : Hid (W.grownBy (W.alloc (.cells #[.int .i64 (m : Int), .slice C r.right.length c] 35)) (some ob)) := World.grownBy_alloc _ _ _
  have HPa := hide (show BB _ _ _ from hP.alloc (.cells #[.int .i64 (m : Int), .slice C r.right.length c] 35))
  have hbk := Blk.new W 35 #[.int .i64 (m : Int), .slice C r.right.length c]
  have Hbk := hide hbk
  have Hq := hide ((World.cell?_alloc_lt W (.cells #[.int .i64 (m : Int), .slice C r.right.length c] 35) ⟨qb, qo, none⟩ hqb).trans hq)
  have HC := hide hCo
  clear hP hC hCo h3 hq hbk
  go_enter Try.func134, Try.ntmps134
  go_wp2_with fail
  go_loopw [8] (fun j V => ∃ U, U = V ∧ W.grownBy U (some ob) ∧ Blk U W.heap.size 35 #[.int .i64 (m : Int), .slice C r.right.length c] ∧ U.cell? ⟨qb, qo, none⟩ = some (.slice (some ⟨ob, 0, none⟩) P.length P.length) ∧ ∃ k : Nat, k ≤ r.right.length ∧ j = .int .i64 k ∧ BB U ob ((r.right.take k).foldl (reach1 m) P)) (fun j _ => r.right.length - (intOf j).toNat)
  case atStart => exact ⟨_, rfl, Hgr.out, Hbk.out, Hq.out, 0, by omega, rfl, HPa.out⟩
  case round =>
    clear Hgr Hbk HPa Hq
    obtain ⟨U, rfl, hgr, hbk, hq, k, hk, rfl, hP⟩ := hrel
    have cG := hbk.cell
    have hobU : ob < U.heap.size := hP.lt
    by_cases hk2 : k < r.right.length
    · obtain ⟨b2, off2, rfl, hb2, hcs2⟩ := HC.out.at_ (k := k) (by simpa using hk2)
      have e1 : U.cell? ⟨b2, off2 + k, none⟩ = some (.int .i64 r.right[k]) := (World.cell?_of_block (a := ⟨b2, off2 + k, none⟩) (hgr.block b2 (by omega) (by intro e; injection e; omega))).trans (hcs2 k _ (ints_at _ k hk2))
      clear hcs2
      have hs := H3.out _ (List.getElem_mem hk2)
      obtain ⟨R, hRe⟩ : ∃ R, R = (r.right.take k).foldl (reach1 m) P := ⟨_, rfl⟩
      have hRl : R.length = P.length := by rw [hRe, foldlI_len]
      have Hs := hide (foldl_take (reach1 m) P r.right k hk2)
      rw [← hRe] at hP Hs
      have Hbk := hide hbk; have Hgr := hide hgr; have Hq := hide hq; have HP := hide hP
      have e2 := BB.at_ HP.out m (by omega)
      clear hbk hgr hP hRe
      cases hz : R.getD m false
      · rw [hz] at e2
        have Ho : Hid (reach1 m R r.right[k] = R) := by unfold Hid reach1; rw [hz, Bool.and_false]; rfl
        clear hz
        go_wp2_with (go_at_call 78; refine (isterm_fn _ _).mono ?_; rintro e w' ⟨rfl, rfl⟩)
        all_goals first | (exfalso; omega) | skip
        go_roundw
        case rel => exact ⟨_, rfl, Hgr.out, Hbk.out, Hq.out, k + 1, by omega, by go_num, by rw [Hs.out, Ho.out]; exact HP.out⟩
        case measure => simp [intOf]; omega
      · rw [hz] at e2
        by_cases hn : r.right[k] < 0
        · have Ho : Hid (reach1 m R r.right[k] = R) := by unfold Hid reach1; rw [decide_eq_false (by omega), Bool.false_and]; rfl
          have hn' : decide (r.right[k] < 0) = true := decide_eq_true hn
          clear hz
          go_wp2_with (go_at_call 78; refine (isterm_fn _ _).mono ?_; rintro e w' ⟨rfl, rfl⟩)
          all_goals first | (exfalso; omega) | skip
          go_roundw
          case rel => exact ⟨_, rfl, Hgr.out, Hbk.out, Hq.out, k + 1, by omega, by go_num, by rw [Hs.out, Ho.out]; exact HP.out⟩
          case measure => simp [intOf]; omega
        · obtain ⟨t, ht⟩ := Int.eq_ofNat_of_zero_le (by omega : 0 ≤ r.right[k])
          rw [ht] at e1 hs hn
          have htl : t < R.length := by omega
          have e3 := BB.at_ HP.out t htl
          have fz := HP.out.frozen t
          have Ho : Hid (reach1 m R r.right[k] = R.set t true) := by unfold Hid reach1; rw [hz, ht, decide_eq_true (by omega)]; rfl
          have hn' : decide ((t : Int) < 0) = false := decide_eq_false hn
          clear hz ht
          go_wp2_with (go_at_call 78; refine (isterm_fn _ _).mono ?_; rintro e w' ⟨rfl, rfl⟩)
          all_goals first | (exfalso; omega) | skip
          go_roundw
          case rel =>
            refine ⟨_, rfl, Grown.set Hgr.out t _, Hbk.out.far (by show W.heap.size ≠ ob; omega) _, ?_, k + 1, by omega, by go_num, by rw [Hs.out, Ho.out]; exact HP.out.set t true⟩
            rw [World.cell?_setCell_other _ _ _ _ (by intro e; injection e with e; exact hqo e.symm)]
            exact Hq.out
          case measure => simp [intOf]; omega
    · obtain rfl : k = r.right.length := by omega
      rw [List.take_length] at hP
      go_wp2_with fail
      go_returns
      exact ⟨rfl, by rw [Hst.out]; exact hP, hgr⟩
end Go.Proofs.Ythpjjlmgdalpaaa
