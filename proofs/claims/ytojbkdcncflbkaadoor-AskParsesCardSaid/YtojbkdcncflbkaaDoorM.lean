/- Plain laws: how a line is read back. No program in sight. -/
import Derived.Test.YtojbkdcncflbkaaDoorW7
import Derived.Lib.AtoiAll
namespace Go.Proofs.YtojbkdcncflbkaaDoor
open Go.RowKit

def atoiV (l : List UInt8) : Int := match Lib.atoiAll l with | .ok v => v | .range => Lib.atoiSat l | _ => 0

/-- What ask.Parse takes for the request of a line. -/
def reqK (l : List UInt8) : Int := kindOf (cutSp l).1
def reqA (l : List UInt8) : Int × Int × List UInt8 :=
  let k := reqK l
  let r := (cutSp l).2.1
  let r2 := if hasK k then (cutSp r).2.1 else r
  (if hasK k then atoiV (cutSp r).1 else 0, if hasN k then atoiV r2 else 0, if hasT k then r2 else [])
def goodI (l : List UInt8) : Bool := okI (reqK l) (reqA l).1 (reqA l).2.1 (reqA l).2.2 && decide (lineI (reqK l) (reqA l).1 (reqA l).2.1 (reqA l).2.2 = l)

/-- What the reference takes for it; none: it gives up ahead of the line's own test. -/
def reqR (l : List UInt8) : Option (Int × Int × List UInt8) :=
  let k := reqK l
  let r := (cutSp l).2.1
  if has k < 0 ∨ (cutSp l).2.2 ≠ decide (0 < has k) then none
  else if has k = 1 then some (0, numberI r, [])
  else if has k = 2 then (if (cutSp r).2.2 then some (numberI (cutSp r).1, 0, (cutSp r).2.1) else none)
  else if has k = 3 then some (0, 0, r)
  else some (0, 0, [])
def goodR (l : List UInt8) : Bool := match reqR l with | some a => okI (reqK l) a.1 a.2.1 a.2.2 && decide (lineI (reqK l) a.1 a.2.1 a.2.2 = l) | none => false

theorem cut_app (a b : List UInt8) (h : ∀ c ∈ a, c.toNat ≠ 32) : cutSp (a ++ 32 :: b) = (a, b, true) := by
  induction a with
  | nil => rfl
  | cons c r ih =>
    have hc : c.toNat ≠ 32 := h c (by simp)
    simp [cutSp, hc, ih (fun d hd => h d (by simp [hd]))]

theorem dig_isDig (n : Nat) : ∀ c ∈ Lib.decDigits n, 48 ≤ c.toNat ∧ c.toNat ≤ 57 := by
  induction n using Nat.strongRecOn with
  | _ u ih =>
    intro c hc
    rw [Lib.decDigits] at hc
    split at hc
    · simp at hc; subst hc
      have : (48 + UInt8.ofNat u).toNat = 48 + u := by
        rw [UInt8.toNat_add, UInt8.toNat_ofNat']; show (48 + u % 256) % 256 = _; omega
      omega
    · rw [List.mem_append] at hc
      rcases hc with hc | hc
      · exact ih (u / 10) (by omega) c hc
      · simp at hc; subst hc
        have : (48 + UInt8.ofNat (u % 10)).toNat = 48 + u % 10 := by
          rw [UInt8.toNat_add, UInt8.toNat_ofNat']; show (48 + u % 10 % 256) % 256 = _; omega
        omega
theorem dig_val (n : Nat) : dval (Lib.decDigits n) = n := by
  induction n using Nat.strongRecOn with
  | _ u ih =>
    rw [Lib.decDigits]
    split
    · have : (48 + UInt8.ofNat u).toNat = 48 + u := by
        rw [UInt8.toNat_add, UInt8.toNat_ofNat']; show (48 + u % 256) % 256 = _; omega
      simp [dval, this]; omega
    · unfold dval
      rw [List.foldl_append]
      have h := ih (u / 10) (by omega)
      unfold dval at h
      rw [h]
      have : (48 + UInt8.ofNat (u % 10)).toNat = 48 + u % 10 := by
        rw [UInt8.toNat_add, UInt8.toNat_ofNat']; show (48 + u % 10 % 256) % 256 = _; omega
      simp [this]; omega
theorem dig_ne (n : Nat) : Lib.decDigits n ≠ [] := by
  rw [Lib.decDigits]; split <;> simp
theorem dig_len10 : ∀ (k n : Nat), n < 10 ^ (k + 1) → (Lib.decDigits n).length ≤ k + 1
  | 0, n, h => by rw [Lib.decDigits, dif_pos (by simpa using h)]; simp
  | k + 1, n, h => by
    rw [Lib.decDigits]
    split
    · simp
    · have := dig_len10 k (n / 10) (by rw [Nat.pow_succ] at h; omega)
      simp; omega

theorem number_dec (n : Nat) (h : n ≤ 1000000000) : numberI (Lib.decDigits n) = n := by
  have hl := dig_len10 9 n (by omega)
  have hne := dig_ne n
  have hp : 1 ≤ (Lib.decDigits n).length := by
    rcases hd : Lib.decDigits n with _ | ⟨a, b⟩
    · exact absurd hd hne
    · simp
  unfold numberI
  rw [dig_val, if_pos]
  simp only [Bool.and_eq_true, decide_eq_true_eq, List.all_eq_true, Int.toNat_natCast]
  refine ⟨⟨hp, hl⟩, fun c hc => ?_, by omega, trivial⟩
  have := dig_isDig n c hc
  simp [isDig]; omega

theorem fold_ge (l : List UInt8) : ∀ (a : Nat), (∀ c ∈ l, 48 ≤ c.toNat ∧ c.toNat ≤ 57) → (a : Int) ≤ l.foldl (fun n c => 10 * n + (c.toNat : Int) - 48) (a : Int) := by
  induction l with
  | nil => intro a _; exact Int.le_refl _
  | cons d q ih =>
    intro a hh
    have hd' := hh d (by simp)
    have e' : 10 * (a : Int) + (d.toNat : Int) - 48 = ((a * 10 + (d.toNat - 48) : Nat) : Int) := by omega
    simp only [List.foldl_cons, e']
    have := ih (a * 10 + (d.toNat - 48)) (fun c hc => hh c (by simp [hc]))
    omega
theorem parse_cons (acc : Nat) (c : UInt8) (r : List UInt8) (hc : 48 ≤ c.toNat ∧ c.toNat ≤ 57) (h : acc * 10 + (c.toNat - 48) ≤ 1000000000) : Lib.parseUint10 acc (c :: r) = Lib.parseUint10 (acc * 10 + (c.toNat - 48)) r := by
  rw [Lib.parseUint10, if_pos hc, if_neg (by omega), if_neg (by omega)]
theorem parse_dec (l : List UInt8) : ∀ (acc : Nat), (∀ c ∈ l, 48 ≤ c.toNat ∧ c.toNat ≤ 57) → (l.foldl (fun n c => 10 * n + (c.toNat : Int) - 48) (acc : Int)) ≤ 1000000000 → Lib.parseUint10 acc l = .ok (l.foldl (fun n c => 10 * n + (c.toNat : Int) - 48) (acc : Int)).toNat := by
  induction l with
  | nil => intro acc _ _; simp [Lib.parseUint10]
  | cons c r ih =>
    intro acc hd hb
    have hc := hd c (by simp)
    have e : 10 * (acc : Int) + (c.toNat : Int) - 48 = ((acc * 10 + (c.toNat - 48) : Nat) : Int) := by omega
    simp only [List.foldl_cons, e] at hb ⊢
    have hle := fold_ge r (acc * 10 + (c.toNat - 48)) (fun d h => hd d (by simp [h]))
    rw [parse_cons acc c r hc (by omega)]
    exact ih _ (fun d h => hd d (by simp [h])) hb

theorem atoi_dec (n : Nat) (h : n ≤ 1000000000) : atoiV (Lib.decDigits n) = n := by
  have hd := dig_isDig n
  have hv := dig_val n
  unfold dval at hv
  have hp := parse_dec (Lib.decDigits n) 0 hd (by rw [show ((0 : Nat) : Int) = 0 from rfl, hv]; omega)
  rw [show ((0 : Nat) : Int) = 0 from rfl, hv] at hp
  have hne := dig_ne n
  unfold atoiV Lib.atoiAll
  rcases hl : Lib.decDigits n with _ | ⟨c, r⟩
  · exact absurd hl hne
  · have hc := hd c (by rw [hl]; simp)
    rw [hl] at hp
    simp only
    rw [if_neg (by omega), Lib.parseMag, if_neg (by simp), hp]
    simp only
    rw [if_neg (by omega), if_neg (by omega), if_neg (by omega)]
    simp

theorem kindOf_word (k : Int) (h : (wordOf k).isEmpty = false) : kindOf (wordOf k) = k := by
  have hm : ∀ p ∈ WL, kindOf p.1 = p.2 := by decide
  unfold wordOf at h ⊢
  split
  · have := hm _ (List.mem_of_find?_eq_some ‹_›)
    rw [this]
    have hs := List.find?_some ‹_›
    simpa using hs
  · rename_i e; rw [e] at h; cases h
theorem word_nosp (k : Int) : ∀ c ∈ wordOf k, c.toNat ≠ 32 := by
  have hm : ∀ p ∈ WL, ∀ c ∈ p.1, c.toNat ≠ 32 := by decide
  unfold wordOf
  split
  · exact hm _ (List.mem_of_find?_eq_some ‹_›)
  · intro c hc; cases hc
theorem cut_nosp (a : List UInt8) (h : ∀ c ∈ a, c.toNat ≠ 32) : cutSp a = (a, [], false) := cutSp_none a h

theorem dig_nosp (n : Nat) : ∀ c ∈ Lib.decDigits n, c.toNat ≠ 32 := fun c hc => by have := dig_isDig n c hc; omega

theorem back {k K N : Int} {t : List UInt8} (h : okI k K N t = true) : reqK (lineI k K N t) = k ∧ reqA (lineI k K N t) = (K, N, t) ∧ reqR (lineI k K N t) = some (K, N, t) := by
  have hw : (wordOf k).isEmpty = false := by
    simp only [okI, Bool.and_eq_true] at h
    simpa using h.1
  have hk : 1 ≤ k ∧ k ≤ 18 := by
    rcases (Classical.em (1 ≤ k ∧ k ≤ 18)) with h1 | h1
    · exact h1
    · rw [word_no k (by omega)] at hw; cases hw
  obtain ⟨n, rfl⟩ := Int.eq_ofNat_of_zero_le (show 0 ≤ k by omega)
  have hkw := kindOf_word _ hw
  have hns := word_nosp (n : Int)
  have hh : has (n : Int) = 2 ∨ has (n : Int) = 1 ∨ has (n : Int) = 0 ∨ has (n : Int) = 3 := by unfold has; (repeat' split) <;> omega
  rcases hh with hh | hh | hh | hh
  · have C := class2 n hh
    obtain ⟨h1, h2, h3, h4⟩ := (ok_2 ⟨hw, C⟩).1 h
    obtain ⟨cK, cN, cT⟩ := C
    obtain ⟨m, rfl⟩ := Int.eq_ofNat_of_zero_le h1
    subst h3
    have hl : lineI n m 0 t = wordOf n ++ 32 :: (Lib.decDigits m ++ 32 :: t) := by simp [lineI, cK, cN, cT]
    have c1 := cut_app (wordOf n) (Lib.decDigits m ++ 32 :: t) hns
    have c2 := cut_app (Lib.decDigits m) t (dig_nosp m)
    rw [hl]
    refine ⟨by rw [reqK, c1, hkw], ?_, ?_⟩
    · simp only [reqA, reqK, c1, hkw, cK, cN, cT, c2, if_true]
      rw [atoi_dec m (by omega)]; simp
    · simp only [reqR, reqK, c1, hkw, c2, hh]
      rw [number_dec m (by omega)]; simp
  · have C := class1 n hh
    obtain ⟨h1, h2, h3, h4, h5⟩ := (ok_1 ⟨hw, C⟩).1 h
    obtain ⟨cK, cN, cT⟩ := C
    obtain ⟨m, rfl⟩ := Int.eq_ofNat_of_zero_le h1
    subst h3
    have ht : t = [] := by simpa using h4
    subst ht
    have hl : lineI n 0 m [] = wordOf n ++ 32 :: Lib.decDigits m := by simp [lineI, cK, cN, cT]
    have c1 := cut_app (wordOf n) (Lib.decDigits m) hns
    rw [hl]
    refine ⟨by rw [reqK, c1, hkw], ?_, ?_⟩
    · simp only [reqA, reqK, c1, hkw, cK, cN, cT, if_true]
      simp [atoi_dec m (by omega)]
    · simp only [reqR, reqK, c1, hkw, hh]
      rw [number_dec m (by omega)]; simp
  · have C := class0 n hh
    obtain ⟨h1, h2, h3, h4⟩ := (ok_0 ⟨hw, C⟩).1 h
    obtain ⟨cK, cN, cT⟩ := C
    subst h1; subst h2
    have ht : t = [] := by simpa using h3
    subst ht
    have hl : lineI n 0 0 [] = wordOf n := by simp [lineI, cK, cN, cT]
    have c1 := cut_nosp (wordOf n) hns
    rw [hl]
    refine ⟨by rw [reqK, c1, hkw], ?_, ?_⟩
    · simp [reqA, reqK, c1, hkw, cK, cN, cT]
    · simp [reqR, reqK, c1, hkw, hh]
  · have C := class3 n hh
    obtain ⟨h1, h2, h3⟩ := (ok_3 ⟨hw, C⟩).1 h
    obtain ⟨cK, cN, cT⟩ := C
    subst h1; subst h2
    have hl : lineI n 0 0 t = wordOf n ++ 32 :: t := by simp [lineI, cK, cN, cT]
    have c1 := cut_app (wordOf n) t hns
    rw [hl]
    refine ⟨by rw [reqK, c1, hkw], ?_, ?_⟩
    · simp [reqA, reqK, c1, hkw, cK, cN, cT]
    · simp [reqR, reqK, c1, hkw, hh]

theorem good_back {k K N : Int} {t : List UInt8} (h : okI k K N t = true) : goodI (lineI k K N t) = true := by
  obtain ⟨h1, h2, h3⟩ := back h
  simp [goodI, h1, h2, h]
theorem goodI_line {l : List UInt8} (h : goodI l = true) : okI (reqK l) (reqA l).1 (reqA l).2.1 (reqA l).2.2 = true ∧ lineI (reqK l) (reqA l).1 (reqA l).2.1 (reqA l).2.2 = l := by
  simpa [goodI] using h
theorem goodI_R {l : List UInt8} (h : goodI l = true) : reqR l = some (reqA l) := by
  obtain ⟨h1, h2⟩ := goodI_line h
  have := (back h1).2.2
  rw [h2] at this
  exact this
theorem good_same (l : List UInt8) : goodR l = goodI l := by
  cases h : goodI l with
  | true => 
    obtain ⟨h1, h2⟩ := goodI_line h
    rw [goodR, goodI_R h]
    simp [h1, h2]
  | false =>
    cases h2 : goodR l with
    | false => rfl
    | true =>
      exfalso
      unfold goodR at h2
      split at h2
      · rename_i a _
        simp only [Bool.and_eq_true, decide_eq_true_eq] at h2
        obtain ⟨h3, h4⟩ := h2
        have := good_back h3
        rw [h4, h] at this
        cases this
      · cases h2
end Go.Proofs.YtojbkdcncflbkaaDoor
