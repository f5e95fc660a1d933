/- The reference's Line: it comes to the same. -/
import Derived.Test.YtojbkdcncflbkaaDoorW6
import Derived.Deep.RegionWith
namespace Go.Proofs.YtojbkdcncflbkaaDoor
open Go.RowKit Go.Maps Go.WideMaps

theorem wordAt_eq : ∀ n, n < 19 → 1 ≤ n → wordAt n = .string ⟨(wordOf (n : Int)).toArray⟩ := by
  have h : ∀ n, n < 19 → 1 ≤ n → (([] : List UInt8) :: wl).getD n [] = wordOf (n : Int) := by decide
  intro n h1 h2
  rw [wordAt, h n h1 h2]
theorem word_ne : ∀ n : Nat, n < 19 → 1 ≤ n → (wordOf (n : Int)).isEmpty = false := by decide
theorem word_no (k : Int) (h : k < 1 ∨ 18 < k) : (wordOf k).isEmpty = true := by
  have hm : ∀ p ∈ WL, 1 ≤ p.2 ∧ p.2 ≤ 18 := by decide
  rw [wordOf_none k (fun p hp e => by have := hm p hp; omega)]; rfl

theorem line7_no (k K N : Int) (t : ByteArray) (w : World) (hk : k < 1 ∨ 18 < k) : Calls Tryd.prog 7 #[.agg #[.int .i64 k, .int .i64 K, .int .i64 N, .string t]] w (LineI k K N t w) := by
  have hh : has k < 0 := by unfold has; (repeat' split) <;> omega
  have hok : okI k K N t.data.toList = false := by unfold okI; rw [word_no k hk]; rfl
  have Hok := hide hok
  clear hok hk
  go_enter Tryd.func7, Tryd.ntmps7
  go_wp2_with (go_at_call 16; refine (has_any _ _).mono ?_; rintro e w' ⟨rfl, rfl⟩)
  go_ret2
  exact lineI_no Hok.out ((Below.refl _ _).alloc (Nat.le_refl _) _)

/-- What the word's list gives behind the call: the box, and the word at the kind. -/
theorem at_words {w : World} {cs : Array Value} {T : TypeId} {w1 : World} (h : Words8 (w.alloc (.cells cs T)).drew w1) (n : Nat) (h1 : n < 19) (h2 : 1 ≤ n) :
    w1.cell? ⟨w.heap.size + 1, n, none⟩ = some (.string ⟨(wordOf (n : Int)).toArray⟩) ∧ Below (w.heap.size + 1) (w.alloc (.cells cs T)) w1 := by
  obtain ⟨hb, hc⟩ := h
  have e : (w.alloc (.cells cs T)).drew.heap.size = w.heap.size + 1 := by show (w.alloc (.cells cs T)).heap.size = _; simp
  rw [e] at hb hc
  exact ⟨by rw [hc n h1, wordAt_eq n h1 h2], ((Below.refl _ _).drew).trans hb⟩

theorem class2 (k : Int) (h : has k = 2) : hasK k = true ∧ hasN k = false ∧ hasT k = true := by
  unfold has at h
  have hk : hasK k = true := by
    simp only [hasK]; (repeat' split at h) <;> simp <;> omega
  refine ⟨hk, ?_, by simp [hasT, hk]⟩
  simp [hasK] at hk; simp [hasN]; omega
theorem class1 (k : Int) (h : has k = 1) : hasK k = false ∧ hasN k = true ∧ hasT k = false := by
  unfold has at h
  have hk : k = 7 ∨ k = 8 := by (repeat' split at h) <;> omega
  rcases hk with rfl | rfl <;> decide
theorem class3 (k : Int) (h : has k = 3) : hasK k = false ∧ hasN k = false ∧ hasT k = true := by
  unfold has at h
  have hk : k = 18 := by (repeat' split at h) <;> omega
  subst hk; decide
theorem class0 (k : Int) (h : has k = 0) : hasK k = false ∧ hasN k = false ∧ hasT k = false := by
  unfold has at h
  have hk : (9 ≤ k ∧ k ≤ 11) ∨ (15 ≤ k ∧ k ≤ 17) := by (repeat' split at h) <;> omega
  have h1 : hasK k = false := by simp [hasK]; omega
  refine ⟨h1, by simp [hasN]; omega, by simp [hasT, h1]; omega⟩

theorem bdrew {B : Nat} {a w : World} (h : Below B a w) (n : Nat) : Below B a (w.drewN n) := ⟨h.os, h.tape, h.output, h.size, h.block⟩

theorem ok_2 {n : Nat} {K N : Int} {t : List UInt8} (H : (wordOf (n : Int)).isEmpty = false ∧ hasK n = true ∧ hasN n = false ∧ hasT n = true) : okI n K N t = true ↔ (0 ≤ K ∧ K ≤ 1000000000 ∧ N = 0 ∧ plainB t = true) := by
  obtain ⟨hw, cK, cN, cT⟩ := H
  simp only [okI, mayB, hw, cK, cN, cT, Bool.not_false, Bool.true_and, Bool.and_true, Bool.true_or, Bool.false_or, Bool.and_eq_true, Bool.or_eq_true, decide_eq_true_eq, beq_iff_eq, or_true, true_or, false_or]
  constructor
  · intro h
    (repeat' apply And.intro) <;> first | omega | (simp_all; done) | (simp_all; rfl)
  · intro h
    (repeat' apply And.intro) <;> first | omega | (simp_all; done) | (simp_all; rfl)
theorem no_2 {n : Nat} {K N : Int} {t : List UInt8} (H : (wordOf (n : Int)).isEmpty = false ∧ hasK n = true ∧ hasN n = false ∧ hasT n = true) (h : ¬ (0 ≤ K ∧ K ≤ 1000000000 ∧ N = 0 ∧ plainB t = true)) : okI n K N t = false := by
  cases e : okI n K N t with
  | false => rfl
  | true => exact absurd ((ok_2 H).1 e) h

theorem ok_1 {n : Nat} {K N : Int} {t : List UInt8} (H : (wordOf (n : Int)).isEmpty = false ∧ hasK n = false ∧ hasN n = true ∧ hasT n = false) : okI n K N t = true ↔ (0 ≤ N ∧ N ≤ 1000000000 ∧ K = 0 ∧ (t.isEmpty = true ∧ plainB t = true)) := by
  obtain ⟨hw, cK, cN, cT⟩ := H
  simp only [okI, mayB, hw, cK, cN, cT, Bool.not_false, Bool.true_and, Bool.and_true, Bool.true_or, Bool.false_or, Bool.and_eq_true, Bool.or_eq_true, decide_eq_true_eq, beq_iff_eq, or_true, true_or, false_or]
  constructor
  · intro h
    (repeat' apply And.intro) <;> first | omega | (simp_all; done) | (simp_all; rfl)
  · intro h
    (repeat' apply And.intro) <;> first | omega | (simp_all; done) | (simp_all; rfl)
theorem no_1 {n : Nat} {K N : Int} {t : List UInt8} (H : (wordOf (n : Int)).isEmpty = false ∧ hasK n = false ∧ hasN n = true ∧ hasT n = false) (h : ¬ (0 ≤ N ∧ N ≤ 1000000000 ∧ K = 0 ∧ (t.isEmpty = true ∧ plainB t = true))) : okI n K N t = false := by
  cases e : okI n K N t with
  | false => rfl
  | true => exact absurd ((ok_1 H).1 e) h

theorem ok_3 {n : Nat} {K N : Int} {t : List UInt8} (H : (wordOf (n : Int)).isEmpty = false ∧ hasK n = false ∧ hasN n = false ∧ hasT n = true) : okI n K N t = true ↔ (K = 0 ∧ N = 0 ∧ plainB t = true) := by
  obtain ⟨hw, cK, cN, cT⟩ := H
  simp only [okI, mayB, hw, cK, cN, cT, Bool.not_false, Bool.true_and, Bool.and_true, Bool.true_or, Bool.false_or, Bool.and_eq_true, Bool.or_eq_true, decide_eq_true_eq, beq_iff_eq, or_true, true_or, false_or]
  constructor
  · intro h
    (repeat' apply And.intro) <;> first | omega | (simp_all; done) | (simp_all; rfl)
  · intro h
    (repeat' apply And.intro) <;> first | omega | (simp_all; done) | (simp_all; rfl)
theorem no_3 {n : Nat} {K N : Int} {t : List UInt8} (H : (wordOf (n : Int)).isEmpty = false ∧ hasK n = false ∧ hasN n = false ∧ hasT n = true) (h : ¬ (K = 0 ∧ N = 0 ∧ plainB t = true)) : okI n K N t = false := by
  cases e : okI n K N t with
  | false => rfl
  | true => exact absurd ((ok_3 H).1 e) h

theorem ok_0 {n : Nat} {K N : Int} {t : List UInt8} (H : (wordOf (n : Int)).isEmpty = false ∧ hasK n = false ∧ hasN n = false ∧ hasT n = false) : okI n K N t = true ↔ (K = 0 ∧ N = 0 ∧ (t.isEmpty = true ∧ plainB t = true)) := by
  obtain ⟨hw, cK, cN, cT⟩ := H
  simp only [okI, mayB, hw, cK, cN, cT, Bool.not_false, Bool.true_and, Bool.and_true, Bool.true_or, Bool.false_or, Bool.and_eq_true, Bool.or_eq_true, decide_eq_true_eq, beq_iff_eq, or_true, true_or, false_or]
  constructor
  · intro h
    (repeat' apply And.intro) <;> first | omega | (simp_all; done) | (simp_all; rfl)
  · intro h
    (repeat' apply And.intro) <;> first | omega | (simp_all; done) | (simp_all; rfl)
theorem no_0 {n : Nat} {K N : Int} {t : List UInt8} (H : (wordOf (n : Int)).isEmpty = false ∧ hasK n = false ∧ hasN n = false ∧ hasT n = false) (h : ¬ (K = 0 ∧ N = 0 ∧ (t.isEmpty = true ∧ plainB t = true))) : okI n K N t = false := by
  cases e : okI n K N t with
  | false => rfl
  | true => exact absurd ((ok_0 H).1 e) h

set_option maxHeartbeats 2000000 in
theorem line7_2 (n : Nat) (K N : Int) (t : ByteArray) (w : World) (hn1 : 1 ≤ n) (hn2 : n < 19) (ht : t.size ≤ maxLen) (hh : has n = 2) : Calls Tryd.prog 7 #[.agg #[.int .i64 (n : Int), .int .i64 K, .int .i64 N, .string t]] w (LineI (n : Int) K N t w) := by
  unfold maxLen at ht
  have l3 := word_len n
  have HC := hide (⟨word_ne n hn2 hn1, class2 n hh⟩ : (wordOf (n : Int)).isEmpty = false ∧ hasK n = true ∧ hasN n = false ∧ hasT n = true)
  go_enter Tryd.func7, Tryd.ntmps7
  go_wp2_with (go_at_call 16; refine (has_any _ _).mono ?_; rintro e w' ⟨rfl, rfl⟩)
  go_region_with (go_at_call 8; refine (words8_any _).mono ?_; rintro e w1 ⟨rfl, hw8⟩; obtain ⟨hcn, hb1⟩ := at_words hw8 n hn2 hn1; have c1 := boxed hb1; clear hw8)
  all_goals
    have hb : Below w.heap.size w w1 := ((Below.refl _ _).alloc (Nat.le_refl _) _).trans (hb1.mono (by omega))
    clear hb1
    go_wp2_with (go_at_call 17; refine (plain17 _ _ (by unfold maxLen; omega)).mono ?_; rintro e w' ⟨rfl, rfl⟩)
    all_goals first
      | (exfalso; omega) | (go_ret2; exact lineI_no (no_2 HC.out (by rintro ⟨a, b, c, d⟩; first | omega | (simp_all; done))) hb)
      | (have hK0 : 0 ≤ K := by assumption
         have hK1 : K ≤ 1000000000 := by assumption
         have hp : plainB t.data.toList = true := by have h : (!plainB t.data.toList) = false := by assumption
                                                     simpa using h
         have l4 := plain_len hp
         have l1 : (Lib.decDigits K.toNat).length ≤ 1000000001 := by have := dec_len K.toNat; omega
         have hd : ∀ W, Calls Tryd.prog 18 #[.int .i64 K] W fun e w' => e = .returned (.string ⟨(Lib.decDigits K.toNat).toArray⟩) ∧ ∃ k, w' = W.drewN k := fun W => dec_calls K W hK0 (by omega)
         have z1 : ¬ (wordOf (n : Int)).length + 1 > 9223372036854775807 := by omega
         have z2 : ¬ (wordOf (n : Int)).length + 1 + (Lib.decDigits K.toNat).length > 9223372036854775807 := by omega
         have z3 : ¬ (wordOf (n : Int)).length + 1 + (Lib.decDigits K.toNat).length + 1 > 9223372036854775807 := by omega
         have z4 : ¬ (wordOf (n : Int)).length + 1 + (Lib.decDigits K.toNat).length + 1 + t.size > 9223372036854775807 := by omega
         go_quiet ((go_at_call 18; exact quiet_all hd _ _))
         go_wp2_with fail
         go_ret2
         have hN : N = 0 := by first | assumption | rfl
         exact lineI_yes ((ok_2 HC.out).2 ⟨hK0, hK1, hN, hp⟩) _ (by obtain ⟨hw, cK, cN, cT⟩ := HC.out; simp [lineI, ByteArray.data_append, cK, cN, cT]) (bdrew hb _))

set_option maxHeartbeats 2000000 in
theorem line7_1 (n : Nat) (K N : Int) (t : ByteArray) (w : World) (hn1 : 1 ≤ n) (hn2 : n < 19) (ht : t.size ≤ maxLen) (hh : has n = 1) : Calls Tryd.prog 7 #[.agg #[.int .i64 (n : Int), .int .i64 K, .int .i64 N, .string t]] w (LineI (n : Int) K N t w) := by
  unfold maxLen at ht
  have l3 := word_len n
  have HC := hide (⟨word_ne n hn2 hn1, class1 n hh⟩ : (wordOf (n : Int)).isEmpty = false ∧ hasK n = false ∧ hasN n = true ∧ hasT n = false)
  go_enter Tryd.func7, Tryd.ntmps7
  go_wp2_with (go_at_call 16; refine (has_any _ _).mono ?_; rintro e w' ⟨rfl, rfl⟩)
  go_region_with (go_at_call 8; refine (words8_any _).mono ?_; rintro e w1 ⟨rfl, hw8⟩; obtain ⟨hcn, hb1⟩ := at_words hw8 n hn2 hn1; have c1 := boxed hb1; clear hw8)
  all_goals
    have hb : Below w.heap.size w w1 := ((Below.refl _ _).alloc (Nat.le_refl _) _).trans (hb1.mono (by omega))
    clear hb1
    have HT : Hid (t.toList = t.data.toList) := Lib.toList_data t
    by_cases hK : K = 0
    · by_cases hN : 0 ≤ N ∧ N ≤ 1000000000
      · have l1 : (Lib.decDigits N.toNat).length ≤ 1000000001 := by have := dec_len N.toNat; omega
        obtain ⟨hN0, hN1⟩ := hN
        subst hK
        cases hp : plainB t.data.toList
        · go_wp2_with (go_at_call 17; refine (plain17 _ _ (by unfold maxLen; omega)).mono ?_; rintro e w' ⟨rfl, rfl⟩)
          all_goals first | (exfalso; omega) | (go_ret2; exact lineI_no (no_1 HC.out (by rintro ⟨a, b, c, d, e⟩; simp_all)) hb)
        · have l4 := plain_len hp
          go_wp2_with (first | (go_at_call 17; refine (plain17 _ _ (by unfold maxLen; omega)).mono ?_; rintro e w' ⟨rfl, rfl⟩) | (go_at_call 18; refine (dec_calls N _ hN0 (by omega)).mono ?_; rintro e w' ⟨rfl, kd, rfl⟩))
          all_goals first
            | (exfalso; omega)
            | (have he : t.toList.isEmpty = false := by assumption
               rw [HT.out] at he
               go_ret2
               exact lineI_no (no_1 HC.out (by rintro ⟨a, b, c, d, e⟩; rw [he] at d; cases d)) hb)
            | (have he : t.toList.isEmpty = true := by assumption
               rw [HT.out] at he
               go_ret2
               exact lineI_yes ((ok_1 HC.out).2 ⟨hN0, hN1, rfl, he, hp⟩) _ (by obtain ⟨hw, cK, cN, cT⟩ := HC.out; simp [lineI, ByteArray.data_append, cK, cN, cT]) (bdrew hb _))
      · go_wp2_with (go_at_call 17; refine (plain17 _ _ (by unfold maxLen; omega)).mono ?_; rintro e w' ⟨rfl, rfl⟩)
        all_goals first | (exfalso; omega) | (go_ret2; exact lineI_no (no_1 HC.out (by rintro ⟨a, b, c, d⟩; exact hN ⟨a, b⟩)) hb)
    · go_wp2_with fail
      all_goals first | (exfalso; omega) | (go_ret2; exact lineI_no (no_1 HC.out (by rintro ⟨a, b, c, d⟩; exact hK c)) hb)

set_option maxHeartbeats 2000000 in
theorem line7_3 (n : Nat) (K N : Int) (t : ByteArray) (w : World) (hn1 : 1 ≤ n) (hn2 : n < 19) (ht : t.size ≤ maxLen) (hh : has n = 3) : Calls Tryd.prog 7 #[.agg #[.int .i64 (n : Int), .int .i64 K, .int .i64 N, .string t]] w (LineI (n : Int) K N t w) := by
  unfold maxLen at ht
  have l3 := word_len n
  have HC := hide (⟨word_ne n hn2 hn1, class3 n hh⟩ : (wordOf (n : Int)).isEmpty = false ∧ hasK n = false ∧ hasN n = false ∧ hasT n = true)
  go_enter Tryd.func7, Tryd.ntmps7
  go_wp2_with (go_at_call 16; refine (has_any _ _).mono ?_; rintro e w' ⟨rfl, rfl⟩)
  go_region_with (go_at_call 8; refine (words8_any _).mono ?_; rintro e w1 ⟨rfl, hw8⟩; obtain ⟨hcn, hb1⟩ := at_words hw8 n hn2 hn1; have c1 := boxed hb1; clear hw8)
  all_goals
    have hb : Below w.heap.size w w1 := ((Below.refl _ _).alloc (Nat.le_refl _) _).trans (hb1.mono (by omega))
    clear hb1
    go_wp2_with (go_at_call 17; refine (plain17 _ _ (by unfold maxLen; omega)).mono ?_; rintro e w' ⟨rfl, rfl⟩)
    all_goals first
      | (exfalso; omega)
      | (have hK : ¬ K = 0 := by assumption
         go_ret2
         exact lineI_no (no_3 HC.out (fun h => hK h.1)) hb)
      | (have hN : ¬ N = 0 := by assumption
         go_ret2
         exact lineI_no (no_3 HC.out (fun h => hN h.2.1)) hb)
      | (have hp : (!plainB t.data.toList) = true := by assumption
         go_ret2
         exact lineI_no (no_3 HC.out (fun h => by rw [h.2.2] at hp; cases hp)) hb)
      | (have hp : (!plainB t.data.toList) = false := by assumption
         have l4 := plain_len (by simpa using hp)
         exfalso; omega)
      | (have hp : (!plainB t.data.toList) = false := by assumption
         have hK : K = 0 := by first | assumption | rfl
         have hN : N = 0 := by first | assumption | rfl
         go_ret2
         exact lineI_yes ((ok_3 HC.out).2 ⟨hK, hN, by simpa using hp⟩) _ (by obtain ⟨hw, cK, cN, cT⟩ := HC.out; simp [lineI, ByteArray.data_append, cK, cN, cT]) hb)

set_option maxHeartbeats 2000000 in
theorem line7_0 (n : Nat) (K N : Int) (t : ByteArray) (w : World) (hn1 : 1 ≤ n) (hn2 : n < 19) (ht : t.size ≤ maxLen) (hh : has n = 0) : Calls Tryd.prog 7 #[.agg #[.int .i64 (n : Int), .int .i64 K, .int .i64 N, .string t]] w (LineI (n : Int) K N t w) := by
  unfold maxLen at ht
  have l3 := word_len n
  have HC := hide (⟨word_ne n hn2 hn1, class0 n hh⟩ : (wordOf (n : Int)).isEmpty = false ∧ hasK n = false ∧ hasN n = false ∧ hasT n = false)
  go_enter Tryd.func7, Tryd.ntmps7
  go_wp2_with (go_at_call 16; refine (has_any _ _).mono ?_; rintro e w' ⟨rfl, rfl⟩)
  go_region_with (go_at_call 8; refine (words8_any _).mono ?_; rintro e w1 ⟨rfl, hw8⟩; obtain ⟨hcn, hb1⟩ := at_words hw8 n hn2 hn1; have c1 := boxed hb1; clear hw8)
  all_goals
    have hb : Below w.heap.size w w1 := ((Below.refl _ _).alloc (Nat.le_refl _) _).trans (hb1.mono (by omega))
    clear hb1
    have HT : Hid (t.toList = t.data.toList) := Lib.toList_data t
    go_wp2_with (go_at_call 17; refine (plain17 _ _ (by unfold maxLen; omega)).mono ?_; rintro e w' ⟨rfl, rfl⟩)
    all_goals first
      | (exfalso; omega)
      | (have hK : ¬ K = 0 := by assumption
         go_ret2
         exact lineI_no (no_0 HC.out (fun h => hK h.1)) hb)
      | (have hN : ¬ N = 0 := by assumption
         go_ret2
         exact lineI_no (no_0 HC.out (fun h => hN h.2.1)) hb)
      | (have he : t.toList.isEmpty = false := by assumption
         rw [HT.out] at he
         go_ret2
         exact lineI_no (no_0 HC.out (fun h => by rw [h.2.2.1] at he; cases he)) hb)
      | (have hp : (!plainB t.data.toList) = true := by assumption
         go_ret2
         exact lineI_no (no_0 HC.out (fun h => by rw [h.2.2.2] at hp; cases hp)) hb)
      | (have hp : (!plainB t.data.toList) = false := by assumption
         have he : t.toList.isEmpty = true := by assumption
         rw [HT.out] at he
         have hK : K = 0 := by first | assumption | rfl
         have hN : N = 0 := by first | assumption | rfl
         go_ret2
         exact lineI_yes ((ok_0 HC.out).2 ⟨hK, hN, he, by simpa using hp⟩) _ (by obtain ⟨hw, cK, cN, cT⟩ := HC.out; simp [lineI, ByteArray.data_append, cK, cN, cT]) hb)

theorem line7 (k K N : Int) (t : ByteArray) (w : World) (ht : t.size ≤ maxLen) : Calls Tryd.prog 7 #[.agg #[.int .i64 k, .int .i64 K, .int .i64 N, .string t]] w (LineI k K N t w) := by
  by_cases h : k < 1 ∨ 18 < k
  · exact line7_no k K N t w h
  · obtain ⟨n, rfl⟩ := Int.eq_ofNat_of_zero_le (show 0 ≤ k by omega)
    have h1 : 1 ≤ n := by omega
    have h2 : n < 19 := by omega
    have hh : has (n : Int) = 2 ∨ has (n : Int) = 1 ∨ has (n : Int) = 0 ∨ has (n : Int) = 3 := by unfold has; (repeat' split) <;> omega
    rcases hh with hh | hh | hh | hh
    · exact line7_2 n K N t w h1 h2 ht hh
    · exact line7_1 n K N t w h1 h2 ht hh
    · exact line7_0 n K N t w h1 h2 ht hh
    · exact line7_3 n K N t w h1 h2 ht hh

end Go.Proofs.YtojbkdcncflbkaaDoor
