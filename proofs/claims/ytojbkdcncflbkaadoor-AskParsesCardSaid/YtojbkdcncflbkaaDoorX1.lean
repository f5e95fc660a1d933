/- The laws' own walks. -/
import Derived.Test.YtojbkdcncflbkaaDoorW9
import Derived.Laws.StructEq
namespace Go.Proofs.YtojbkdcncflbkaaDoor
open Go.RowKit

theorem eq23 (a b c a' b' c' : Int) (s s' : ByteArray) (w : World) :
    (Op.equalIn 10000 23 (.agg #[.int .i64 a, .int .i64 b, .int .i64 c, .string s]) (.agg #[.int .i64 a', .int .i64 b', .int .i64 c', .string s'])).run Tryd.prog w = .ok (a == a' && (b == b' && (c == c' && s.toList == s'.toList))) w := by
  have u3 := Tryd.underlying3
  have u9 := Tryd.underlying9
  have hS : Tryd.prog.underlying 23 = some (.struct (Tryd.prog.fieldsOf 23)) := by kernel_rfl
  have hp : Tryd.prog.stoodInHeld 23 = false := by kernel_rfl
  rw [show (10000 : Nat) = 9999 + 1 from rfl, run_equalIn_agg w 9999 23 _ _ hS hp]
  simp only [Program.fieldsOf, Tryd.underlying23]
  go_simp
  by_cases h1 : a = a' <;> by_cases h2 : b = b' <;> by_cases h3 : c = c' <;> by_cases h4 : s.toList = s'.toList <;> simp [h1, h2, h3, h4]
theorem eq28 (a b c a' b' c' : Int) (s s' : ByteArray) (w : World) :
    (Op.equalIn 10000 28 (.agg #[.int .i64 a, .int .i64 b, .int .i64 c, .string s]) (.agg #[.int .i64 a', .int .i64 b', .int .i64 c', .string s'])).run Tryd.prog w = .ok (a == a' && (b == b' && (c == c' && s.toList == s'.toList))) w := by
  have u3 := Tryd.underlying3
  have u9 := Tryd.underlying9
  have hS : Tryd.prog.underlying 28 = some (.struct (Tryd.prog.fieldsOf 28)) := by kernel_rfl
  have hp : Tryd.prog.stoodInHeld 28 = false := by kernel_rfl
  rw [show (10000 : Nat) = 9999 + 1 from rfl, run_equalIn_agg w 9999 28 _ _ hS hp]
  simp only [Program.fieldsOf, Tryd.underlying28]
  go_simp
  by_cases h1 : a = a' <;> by_cases h2 : b = b' <;> by_cases h3 : c = c' <;> by_cases h4 : s.toList = s'.toList <;> simp [h1, h2, h3, h4]

theorem dec_two : Lib.decDigits 2 = [50] := by rw [Lib.decDigits, dif_pos (by omega)]; rfl
theorem dec_seven : Lib.decDigits 7 = [55] := by rw [Lib.decDigits, dif_pos (by omega)]; rfl
theorem good_A : goodI [99, 111, 109, 112, 105, 108, 101, 32, 50, 32, 83, 32, 58, 32, 39, 97, 39, 32, 59] = true ∧ reqK [99, 111, 109, 112, 105, 108, 101, 32, 50, 32, 83, 32, 58, 32, 39, 97, 39, 32, 59] = 1 ∧ reqA [99, 111, 109, 112, 105, 108, 101, 32, 50, 32, 83, 32, 58, 32, 39, 97, 39, 32, 59] = (2, 0, [83, 32, 58, 32, 39, 97, 39, 32, 59]) := by
  have hl : lineI 1 2 0 [83, 32, 58, 32, 39, 97, 39, 32, 59] = [99, 111, 109, 112, 105, 108, 101, 32, 50, 32, 83, 32, 58, 32, 39, 97, 39, 32, 59] := by
    have h1 : wordOf 1 = [99, 111, 109, 112, 105, 108, 101] := by decide
    have h2 : hasK 1 = true := by decide
    have h3 : hasN 1 = false := by decide
    have h4 : hasT 1 = true := by decide
    simp [lineI, h1, h2, h3, h4, dec_two]
  have hok : okI 1 2 0 [83, 32, 58, 32, 39, 97, 39, 32, 59] = true := by decide
  have hb := back hok
  have hg := good_back hok
  rw [hl] at hb hg
  exact ⟨hg, hb.1, hb.2.1⟩
theorem good_B : goodI [102, 105, 110, 105, 115, 104, 32, 48, 55] = false := by
  have hk : reqK [102, 105, 110, 105, 115, 104, 32, 48, 55] = 7 := by decide
  have hA : reqA [102, 105, 110, 105, 115, 104, 32, 48, 55] = (0, 7, []) := by decide
  unfold goodI
  rw [hk, hA, Bool.and_eq_false_iff]
  right
  have h1 : wordOf 7 = [102, 105, 110, 105, 115, 104] := by decide
  have h2 : hasK 7 = false := by decide
  have h3 : hasN 7 = true := by decide
  have h4 : hasT 7 = false := by decide
  simp [lineI, h1, h2, h3, h4, dec_seven]

theorem parse_A (w : World) (hst : St w) : Calls Tryd.prog 10 #[.string ⟨#[99, 111, 109, 112, 105, 108, 101, 32, 50, 32, 83, 32, 58, 32, 39, 97, 39, 32, 59]⟩] w fun e w' => e = .returned (.tuple #[.agg #[.int .i64 1, .int .i64 2, .int .i64 0, .string ⟨#[83, 32, 58, 32, 39, 97, 39, 32, 59]⟩], .bool true]) ∧ Below w.heap.size w w' := by
  refine (parse10 _ w hst (by decide)).mono ?_
  rintro e w' ⟨t, rfl, ht, hb⟩
  obtain ⟨h1, h2, h3⟩ := good_A
  simp only [h1, h2, h3, if_true] at ht ⊢
  have : t = ⟨#[83, 32, 58, 32, 39, 97, 39, 32, 59]⟩ := by apply ByteArray.ext; apply Array.ext'; exact ht
  subst this
  exact ⟨rfl, hb⟩
theorem parse_B (w : World) (hst : St w) : Calls Tryd.prog 10 #[.string ⟨#[102, 105, 110, 105, 115, 104, 32, 48, 55]⟩] w fun e w' => e = .returned (.tuple #[.agg #[.int .i64 0, .int .i64 0, .int .i64 0, .string ⟨#[]⟩], .bool false]) ∧ Below w.heap.size w w' := by
  refine (parse10 _ w hst (by decide)).mono ?_
  rintro e w' ⟨t, rfl, ht, hb⟩
  have h1 := good_B
  simp only [h1] at ht ⊢
  have : t = ⟨#[]⟩ := by apply ByteArray.ext; apply Array.ext'; exact ht
  subst this
  exact ⟨rfl, hb⟩

theorem awake5 (w : World) (hst : St w) : Calls Tryd.prog 5 #[] w fun e w' => e = .returned (.bool true) ∧ Below w.heap.size w w' := by
  have e23 := eq23
  have hgd : Tryd.prog.eqGuardType Tryd.prog.depth 23 = false := by kernel_rfl
  go_enter Tryd.func5, Tryd.ntmps5
  go_wp2_with fail
  refine (parse_A _ hst).mono ?_
  rintro e w1 ⟨rfl, hb1⟩
  go_wp2_with fail
  have b2 := hb1.alloc hb1.size (.cells #[Value.int IntKind.i64 1, Value.int IntKind.i64 2, Value.int IntKind.i64 0, Value.string ⟨#[83, 32, 58, 32, 39, 97, 39, 32, 59]⟩] 23)
  refine (parse_B _ (hst.below b2)).mono ?_
  rintro e w2 ⟨rfl, hb2⟩
  have k2 := (Blk.new w1 23 #[Value.int IntKind.i64 1, Value.int IntKind.i64 2, Value.int IntKind.i64 0, Value.string ⟨#[83, 32, 58, 32, 39, 97, 39, 32, 59]⟩]).below hb2 (by simp)
  have b3 := b2.trans (hb2.mono b2.size)
  have c2 := (k2.alloc (.cells zero23 23)).cell
  have b4 := b3.alloc b3.size (.cells zero23 23)
  have z2 : w.heap.size ≤ w2.heap.size := b3.size
  have hw11 : wordOf 11 = [114, 101, 99, 111, 118, 101, 114] := by decide
  clear hb1 b2 hb2 k2
  go_wp2_with (go_at_call 9; refine (word_any _ _).mono ?_; rintro e w5 ⟨rfl, hb5⟩; rw [hw11])
  go_ret
  exact ⟨rfl, b4.trans (hb5.mono b4.size)⟩

theorem lineI_cases {k K N : Int} {t : ByteArray} {w : World} {e : Ending} {w' : World} {b : Bool} (hb : okI k K N t.data.toList = b) (h : LineI k K N t w e w') :
    ∃ s : ByteArray, e = .returned (.tuple #[.string s, .bool b]) ∧ Hid (s.data.toList = if b then lineI k K N t.data.toList else []) ∧ Below w.heap.size w w' := by
  obtain ⟨s, he, hs, hb'⟩ := h
  rw [hb] at he hs
  exact ⟨s, he, hs, hb'⟩
theorem ba_ext {a b : ByteArray} (h : a.data.toList = b.data.toList) : a = b := by
  apply ByteArray.ext; apply Array.ext'; exact h

set_option maxHeartbeats 2000000 in
theorem lines_no (k K N : Int) (t : ByteArray) (w : World) (hst : St w) (ht : t.size ≤ 5000) (hok : okI k K N t.data.toList = false) (hk : k < 1 ∨ 18 < k) :
    Calls Tryd.prog 3 #[.agg #[.int .i64 k, .int .i64 K, .int .i64 N, .string t]] w fun e w' => e = .returned (.bool true) ∧ Below w.heap.size w w' := by
  have hwk : wordOf k = [] := by have := word_no k hk; simpa using this
  have b0 := (Below.refl w.heap.size w).alloc (Nat.le_refl _) (.cells (req23 k K N t) 23)
  have k0 := Blk.new w 23 (req23 k K N t)
  have ht' : (t.size : Int) ≤ 5000 := by omega
  go_enter Tryd.func3, Tryd.ntmps3
  go_wp2_with fail
  refine (line6 _ _ _ _ _ (hst.below b0) (by unfold maxLen; omega)).mono ?_
  intro e w1 hL
  obtain ⟨s1, rfl, hs1, hb1⟩ := lineI_cases hok hL
  have b1 := b0.trans (hb1.mono b0.size)
  have k1 := k0.below hb1 k0.lt
  have c1 := k1.cell
  clear hb1 hL
  go_wp2_with fail
  refine (line7 _ _ _ _ _ (by unfold maxLen; omega)).mono ?_
  intro e w2 hL
  obtain ⟨s2, rfl, hs2, hb2⟩ := lineI_cases hok hL
  obtain rfl : s2 = s1 := ba_ext (hs2.out.trans hs1.out.symm)
  have b2 := b1.trans (hb2.mono b1.size)
  have k2 := k1.below hb2 k1.lt
  have c2 := k2.cell
  clear hb2 hL c1 k0 k1 b0 b1
  have c1 := c2
  rcases hk with hk | hk
  · go_wp2_with (first | (go_at_call 9; refine (word_any _ _).mono ?_; rintro e w3 ⟨rfl, hb3⟩; rw [hwk]) | (go_at_call 5; refine (awake5 _ (hst.below (b2.trans (hb3.mono b2.size)))).mono ?_; rintro e w4 ⟨rfl, hb4⟩))
    go_ret
    exact ⟨rfl, (b2.trans (hb3.mono b2.size)).trans (hb4.mono (b2.trans (hb3.mono b2.size)).size)⟩
  · go_wp2_with (first | (go_at_call 9; refine (word_any _ _).mono ?_; rintro e w3 ⟨rfl, hb3⟩; rw [hwk]) | (go_at_call 5; refine (awake5 _ (hst.below (b2.trans (hb3.mono b2.size)))).mono ?_; rintro e w4 ⟨rfl, hb4⟩))
    all_goals first | (exfalso; omega) | (go_ret; exact ⟨rfl, (b2.trans (hb3.mono b2.size)).trans (hb4.mono (b2.trans (hb3.mono b2.size)).size)⟩)

theorem at_words' {w w1 : World} (h : Words8 w.drew w1) (n : Nat) (h1 : n < 19) (h2 : 1 ≤ n) :
    w1.cell? ⟨w.heap.size, n, none⟩ = some (.string ⟨(wordOf (n : Int)).toArray⟩) ∧ Below w.heap.size w w1 := by
  obtain ⟨hb, hc⟩ := h
  exact ⟨by rw [← wordAt_eq n h1 h2]; exact hc n h1, ((Below.refl _ _).drew).trans hb⟩

/-- The first half of the law where the kind is one: up to the word's test. -/
theorem parse_line {k K N : Int} {t s : ByteArray} (hok : okI k K N t.data.toList = true) (hs : Hid (s.data.toList = if true then lineI k K N t.data.toList else [])) (w : World) (hst : St w) (hl : s.size ≤ 100000) :
    Calls Tryd.prog 10 #[.string s] w fun e w' => e = .returned (.tuple #[.agg #[.int .i64 k, .int .i64 K, .int .i64 N, .string t], .bool true]) ∧ Below w.heap.size w w' := by
  refine (parse10 s w hst hl).mono ?_
  rintro e w' ⟨t', rfl, ht', hb⟩
  have hs' : s.data.toList = lineI k K N t.data.toList := hs.out
  have hg := good_back hok
  obtain ⟨h1, h2, _⟩ := back hok
  rw [hs', hg, h2] at ht'
  rw [hs', hg, h1, h2]
  obtain rfl : t' = t := ba_ext ht'
  exact ⟨rfl, hb⟩
theorem line_size {k K N : Int} {t s : ByteArray} (hok : okI k K N t.data.toList = true) (hs : Hid (s.data.toList = if true then lineI k K N t.data.toList else [])) : s.size ≤ 100000 := by
  have hs' : s.data.toList = lineI k K N t.data.toList := hs.out
  have e : s.data.toList.length = s.size := by simp
  simp only [okI, Bool.and_eq_true] at hok
  obtain ⟨_, h1, h2, _, h4⟩ := hok
  have b1 := may_bd h1
  have b2 := may_bd h2
  have d1 := dig_len10 9 K.toNat (by omega)
  have d2 := dig_len10 9 N.toNat (by omega)
  have l1 := word_len k
  have l4 := plain_len h4
  rw [← e, hs', lineI]
  simp only [List.length_append]
  have e1 : (if hasK k = true then 32 :: Lib.decDigits K.toNat else []).length ≤ 11 := by split <;> simp <;> omega
  have e2 : (if hasN k = true then 32 :: Lib.decDigits N.toNat else []).length ≤ 11 := by split <;> simp <;> omega
  have e3 : (if hasT k = true then 32 :: t.data.toList else []).length ≤ 4001 := by split <;> simp <;> omega
  omega

set_option maxHeartbeats 4000000 in
theorem lines_in (n : Nat) (K N : Int) (t : ByteArray) (w : World) (hst : St w) (ht : t.size ≤ 5000) (h1 : 1 ≤ n) (h2 : n < 19) :
    Calls Tryd.prog 3 #[.agg #[.int .i64 (n : Int), .int .i64 K, .int .i64 N, .string t]] w fun e w' => e = .returned (.bool true) ∧ Below w.heap.size w w' := by
  have b0 := (Below.refl w.heap.size w).alloc (Nat.le_refl _) (.cells (req23 n K N t) 23)
  have k0 := Blk.new w 23 (req23 n K N t)
  have ht' : (t.size : Int) ≤ 5000 := by omega
  have e23 := eq23
  have hgd : Tryd.prog.eqGuardType Tryd.prog.depth 23 = false := by kernel_rfl
  cases hok : okI n K N t.data.toList
  all_goals
    have Hok := hide hok
    clear hok
    go_enter Tryd.func3, Tryd.ntmps3
    go_wp2_with fail
    refine (line6 _ _ _ _ _ (hst.below b0) (by unfold maxLen; omega)).mono ?_
    intro e w1 hL
    obtain ⟨s1, rfl, hs1, hb1⟩ := lineI_cases Hok.out hL
    have b1 := b0.trans (hb1.mono b0.size)
    have k1 := k0.below hb1 k0.lt
    have c1 := k1.cell
    clear hb1 hL
    go_wp2_with fail
    refine (line7 _ _ _ _ _ (by unfold maxLen; omega)).mono ?_
    intro e w2 hL
    obtain ⟨s2, rfl, hs2, hb2⟩ := lineI_cases Hok.out hL
    obtain rfl : s2 = s1 := ba_ext (hs2.out.trans hs1.out.symm)
    have b2 := b1.trans (hb2.mono b1.size)
    have k2 := k1.below hb2 k1.lt
    have c2 := k2.cell
    clear hb2 hL c1 k0 k1 b0 b1 hs2
    have n1 : (1 : Int) ≤ (n : Int) := by omega
    have n2 : (n : Int) ≤ 18 := by omega
    have n3 : (n : Int) < 19 := by omega
    go_wp2_with fail
    go_region_with (go_at_call 8; refine (words8_any _).mono ?_; rintro e w3 ⟨rfl, hw8⟩; obtain ⟨hcn, hb3⟩ := at_words' hw8 n h2 h1; have c3 := (k2.below hb3 k2.lt).cell; clear hw8)
  all_goals
    have b3 := b2.trans (hb3.mono b2.size)
    have k3 := k2.below hb3 k2.lt
    clear hb3 k2 c2
    go_wp2_with fail
    refine (word_any _ _).mono ?_
    rintro e w4 ⟨rfl, hb4⟩
    have b4 := b3.trans (hb4.mono b3.size)
    have k4 := k3.below hb4 k3.lt
    clear hb4 k3 c3 b3 hcn b2
    have c4 := k4.cell
  all_goals first
    | (have hf : Hid (okI n K N t.data.toList = false) := Hok
       go_wp2_with (go_at_call 5; refine (awake5 _ (hst.below b4)).mono ?_; rintro e w5 ⟨rfl, hb5⟩)
       go_ret
       exact ⟨rfl, b4.trans (hb5.mono b4.size)⟩)
    | (have hf : Hid (okI n K N t.data.toList = true) := Hok
       go_wp2_with fail
       refine (parse_line Hok.out hs1 _ (hst.below b4) (line_size Hok.out hs1)).mono ?_
       rintro e w5 ⟨rfl, hb5⟩
       have b5 := b4.trans (hb5.mono b4.size)
       have k5 := k4.below hb5 k4.lt
       have c5 := (k5.alloc (.cells (req23 n K N t) 23)).cell
       have b6 := b5.alloc b5.size (.cells (req23 n K N t) 23)
       clear hb5 b4 k4 c4
       go_wp2_with (go_at_call 5; refine (awake5 _ (hst.below b6)).mono ?_; rintro e w6 ⟨rfl, hb6⟩)
       go_ret
       exact ⟨rfl, b6.trans (hb6.mono b6.size)⟩)

theorem asklines (k K N : Int) (t : ByteArray) (w : World) (hst : St w) (ht : t.size ≤ maxLen) :
    Calls Tryd.prog 3 #[.agg #[.int .i64 k, .int .i64 K, .int .i64 N, .string t]] w fun e w' => e = .returned (.bool true) ∧ Below w.heap.size w w' := by
  by_cases h5 : t.size ≤ 5000
  · by_cases hk : k < 1 ∨ 18 < k
    · exact lines_no k K N t w hst h5 (by unfold okI; rw [word_no k hk]; rfl) hk
    · obtain ⟨n, rfl⟩ := Int.eq_ofNat_of_zero_le (show 0 ≤ k by omega)
      exact lines_in n K N t w hst h5 (by omega) (by omega)
  · have b0 := (Below.refl w.heap.size w).alloc (Nat.le_refl _) (.cells (req23 k K N t) 23)
    have ht' : (5000 : Int) < t.size := by omega
    unfold maxLen at ht
    go_enter Tryd.func3, Tryd.ntmps3
    go_wp2_with (go_at_call 5; refine (awake5 _ (hst.below b0)).mono ?_; rintro e w1 ⟨rfl, hb1⟩)
    go_ret
    exact ⟨rfl, b0.trans (hb1.mono b0.size)⟩

theorem ppost_cases {l : List UInt8} {w : World} {e : Ending} {w' : World} {b : Bool} (hb : goodI l = b) (h : PPost (goodI l) l w e w') :
    ∃ (k K N : Int) (t : ByteArray), e = .returned (.tuple #[.agg #[.int .i64 k, .int .i64 K, .int .i64 N, .string t], .bool b]) ∧ Hid (k = (if b then reqK l else 0) ∧ K = (if b then (reqA l).1 else 0) ∧ N = (if b then (reqA l).2.1 else 0) ∧ t.data.toList = (if b then (reqA l).2.2 else [])) ∧ Below w.heap.size w w' := by
  obtain ⟨t, he, ht, hb'⟩ := h
  rw [hb] at he ht
  exact ⟨_, _, _, t, he, ⟨rfl, rfl, rfl, ht⟩, hb'⟩

set_option maxHeartbeats 4000000 in
theorem askparses (s : ByteArray) (w : World) (hst : St w) (hs : s.size ≤ maxLen) : Calls Tryd.prog 4 #[.string s] w fun e w' => e = .returned (.bool true) ∧ Below w.heap.size w w' := by
  have e23 := eq23
  have e28 := eq28
  have hgd : Tryd.prog.eqGuardType Tryd.prog.depth 23 = false := by kernel_rfl
  have hgd2 : Tryd.prog.eqGuardType Tryd.prog.depth 28 = false := by kernel_rfl
  unfold maxLen at hs
  by_cases h5 : s.size ≤ 5000
  · have h5' : (s.size : Int) ≤ 5000 := by omega
    cases hg : goodI s.data.toList
    all_goals
      have Hg := hide hg
      clear hg
      go_enter Tryd.func4, Tryd.ntmps4
      go_wp2_with fail
      refine (parse10 _ _ hst (by omega)).mono ?_
      intro e w1 hP
      obtain ⟨k, K, N, t, rfl, hq, hb1⟩ := ppost_cases Hg.out hP
      clear hP
      go_wp2_with fail
      have b2 := hb1.alloc hb1.size (.cells (req23 k K N t) 23)
      have k2 := Blk.new w1 23 (req23 k K N t)
      refine (parse11 _ _ (by omega)).mono ?_
      intro e w3 hP
      obtain ⟨k', K', N', t', rfl, hq', hb3⟩ := ppost_cases Hg.out hP
      obtain ⟨p1, p2, p3, p4⟩ := hq'.out
      obtain ⟨q1, q2, q3, q4⟩ := hq.out
      obtain rfl : k' = k := p1.trans q1.symm
      obtain rfl : K' = K := p2.trans q2.symm
      obtain rfl : N' = N := p3.trans q3.symm
      obtain rfl : t' = t := ba_ext (p4.trans q4.symm)
      have b3 := b2.trans (hb3.mono b2.size)
      have k3 := (k2.below hb3 k2.lt).alloc (.cells (req23 k' K' N' t') 28)
      have c3 := k3.cell
      have b4 := b3.alloc b3.size (.cells (req23 k' K' N' t') 28)
      clear hP hb1 b2 k2 hb3 hq' p1 p2 p3 p4 q1 q2 q3 q4 b3
    · go_wp2_with (go_at_call 5; refine (awake5 _ (hst.below b4)).mono ?_; rintro e w5 ⟨rfl, hb5⟩)
      go_ret
      exact ⟨rfl, b4.trans (hb5.mono b4.size)⟩
    · go_wp2_with fail
      have hgl := goodI_line Hg.out
      obtain ⟨q1, q2, q3, q4⟩ := hq.out
      simp only [if_true] at q1 q2 q3 q4
      rw [← q1, ← q2, ← q3, ← q4] at hgl
      have tl : t'.size ≤ 5000 := by
        have h1 := hgl.1
        simp only [okI, Bool.and_eq_true] at h1
        have := plain_len h1.2.2.2.2
        omega
      have Hgl := hide hgl
      clear hgl q1 q2 q3 q4
      refine (line6 _ _ _ _ _ (hst.below b4) (by unfold maxLen; omega)).mono ?_
      intro e w5 hL
      obtain ⟨s1, rfl, hs1, hb5⟩ := lineI_cases Hgl.out.1 hL
      obtain rfl : s1 = s := ba_ext (by rw [hs1.out]; simpa using Hgl.out.2)
      have b5 := b4.trans (hb5.mono b4.size)
      clear hL hb5 k3 c3
      go_wp2_with (go_at_call 5; refine (awake5 _ (hst.below b5)).mono ?_; rintro e w6 ⟨rfl, hb6⟩)
      go_ret
      exact ⟨rfl, b5.trans (hb6.mono b5.size)⟩
  · have h5' : (5000 : Int) < s.size := by omega
    go_enter Tryd.func4, Tryd.ntmps4
    go_wp2_with (go_at_call 5; refine (awake5 _ hst).mono ?_; rintro e w1 ⟨rfl, hb1⟩)
    go_ret
    exact ⟨rfl, hb1⟩
end Go.Proofs.YtojbkdcncflbkaaDoor
