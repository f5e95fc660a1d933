/- ask's plain: by runes; the same as by bytes. The reference's words. -/
import Derived.Test.YtojbkdcncflbkaaDoorW4
import Derived.Test.YtojbkdcncflbkaaDoorShelf
namespace Go.Proofs.YtojbkdcncflbkaaDoor
open Go.RowKit Go.Maps Go.WideMaps

def badR (x : Nat) : Bool := decide (x < 32) || decide (126 < x)

theorem decode_low (s : ByteArray) (i : Nat) (h : (Utf8.decode s i).1 < 128) : Utf8.decode s i = ((s.get! i).toNat, 1) := by
  unfold Utf8.decode Utf8.runeError at h ⊢
  simp only [Nat.add_zero] at h ⊢
  split
  · rfl
  · rename_i h0
    rw [if_neg h0] at h
    exfalso
    (repeat' split at h) <;> simp_all <;> omega
theorem decode_asc (s : ByteArray) (i : Nat) (h : (s.get! i).toNat < 128) : Utf8.decode s i = ((s.get! i).toNat, 1) := by
  unfold Utf8.decode
  simp only [Nat.add_zero]
  rw [if_pos (by simpa using h)]

theorem idx_neg (s : ByteArray) : ∀ (f pos : Nat), s.size ≤ pos + f → (Lib.idxFuncFrom badR true s f pos = -1 ↔ ∀ j, pos ≤ j → j < s.size → okByte (s.get! j) = true)
  | 0, pos, hf => by
    simp only [Lib.idxFuncFrom, true_iff]
    intro j h1 h2; omega
  | f + 1, pos, hf => by
    unfold Lib.idxFuncFrom
    by_cases hp : pos < s.size
    · rw [if_pos hp]
      by_cases hok : okByte (s.get! pos) = true
      · have ho : 32 ≤ (s.get! pos).toNat ∧ (s.get! pos).toNat ≤ 126 := by simpa [okByte] using hok
        rw [decode_asc s pos (by omega)]
        have hb : badR (s.get! pos).toNat = false := by simp [badR]; omega
        simp only [hb]
        rw [if_neg (by simp), idx_neg s f (pos + 1) (by omega)]
        constructor
        · intro h j h1 h2
          by_cases e : j = pos
          · subst e; exact hok
          · exact h j (by omega) h2
        · intro h j h1 h2
          exact h j (by omega) h2
      · have hbad : badR (Utf8.decode s pos).1 = true := by
          cases hb : badR (Utf8.decode s pos).1 with
          | true => rfl
          | false =>
            have h1 : 32 ≤ (Utf8.decode s pos).1 ∧ (Utf8.decode s pos).1 ≤ 126 := by simpa [badR] using hb
            rw [decode_low s pos (by omega)] at h1
            exact absurd (by simpa [okByte] using h1) hok
        rw [if_pos hbad]
        constructor
        · intro h; omega
        · intro h; exact absurd (h pos (Nat.le_refl _) hp) hok
    · rw [if_neg hp]
      simp only [true_iff]
      intro j h1 h2; omega

theorem plain_idx (s : ByteArray) : (decide (s.size ≤ 4000) && decide (Lib.idxFunc badR true s < 0)) = plainB s.data.toList := by
  have h := idx_neg s s.size 0 (by omega)
  have hr := Lib.idxFunc_range badR true s
  unfold plainB
  rw [Bool.and_comm]
  congr 1
  · rw [Bool.eq_iff_iff, decide_eq_true_iff, List.all_eq_true]
    have e : Lib.idxFunc badR true s < 0 ↔ Lib.idxFuncFrom badR true s s.size 0 = -1 := by
      show _ ↔ Lib.idxFunc badR true s = -1
      omega
    rw [e, h]
    constructor
    · intro hh c hc
      obtain ⟨j, hj, rfl⟩ := List.getElem_of_mem hc
      have hj' : j < s.size := by simpa using hj
      have := hh j (by omega) hj'
      rwa [show s.get! j = s.data.toList[j] from by simp [ByteArray.get!, hj']] at this
    · intro hh j _ h2
      have := hh (s.data.toList[j]'(by simpa using h2)) (List.getElem_mem _)
      rwa [show s.get! j = s.data.toList[j]'(by simpa using h2) from by simp [ByteArray.get!, h2]]

theorem bad_gives (W : World) (x : Nat) (hx : x ≤ 1114111) : FnGives Tryd.prog 24 #[] #[encR x] (.bool (badR x)) W := by
  show Calls Tryd.prog 24 #[.int .i32 (x : Int)] W fun e w' => e = .returned (.bool (badR x)) ∧ ∃ q, w' = W.drewN q
  go_enter Tryd.func24, Tryd.ntmps24
  go_wp2
  all_goals
    go_ret
    refine ⟨ret_b ?_, 0, rfl⟩
    rw [Bool.eq_iff_iff]
    simp [badR]
    omega

theorem plain14 (s : ByteArray) (w : World) (hs : s.size ≤ maxLen) : Calls Tryd.prog 14 #[.string s] w fun e w' => e = .returned (.bool (plainB s.data.toList)) ∧ Below w.heap.size w w' := by
  unfold maxLen at hs
  have H := hide (plain_idx s)
  by_cases hl : s.size ≤ 4000
  · have hl' : (s.size : Int) ≤ 4000 := by omega
    have hI : ∀ W, Calls Tryd.prog 25 #[.string s, .func (.func 24) #[] #[]] W fun e w' => e = .returned (.int .i64 (Lib.idxFunc badR true s)) ∧ Below W.heap.size W w' :=
      fun W => Tryd.strings_IndexFunc_runes 24 #[] (enters_of Tryd.func24 (by kernel_rfl) rfl) badR s W (fun W' x hx _ => bad_gives W' x hx)
    go_enter Tryd.func14, Tryd.ntmps14
    go_wp2_with (go_at_call 25; refine (hI _).mono ?_; rintro e w' ⟨rfl, hb⟩)
    go_ret
    refine ⟨ret_b ?_, hb⟩
    rw [← H.out]
    simp [hl]
  · have hl' : ¬ (s.size : Int) ≤ 4000 := by omega
    go_enter Tryd.func14, Tryd.ntmps14
    go_wp2
    go_ret
    refine ⟨ret_b ?_, Below.refl _ _⟩
    rw [← H.out]; simp; omega

/-! ### The reference's list of words -/
def wordAt (k : Nat) : Value := .string ⟨((([] : List UInt8) :: wl).getD k []).toArray⟩
def Words8 (w w' : World) : Prop := Below w.heap.size w w' ∧ ∀ k, k < 19 → w'.cell? ⟨w.heap.size, k, none⟩ = some (wordAt k)

theorem cells19 (w : World) (k : Nat) (hk : k < 19) (cs : Array Value) (h : cs.toList = (([] : List UInt8) :: wl).map fun l => Value.string ⟨l.toArray⟩) (t : TypeId) : (w.alloc (.cells cs t)).cell? ⟨w.heap.size, k, none⟩ = some (wordAt k) := by
  have e : (w.alloc (.cells cs t)).cell? ⟨w.heap.size, k, none⟩ = cs[k]? := by
    unfold World.cell?
    rw [show (w.alloc (.cells cs t)).heap[w.heap.size]? = some (.cells cs t) from heap_alloc_new w _]
    rfl
  rw [e, ← Array.getElem?_toList, h, List.getElem?_map]
  have hl : k < (([] : List UInt8) :: wl).length := by have : (([] : List UInt8) :: wl).length = 19 := rfl; omega
  rw [List.getElem?_eq_getElem hl, wordAt, List.getD_eq_getElem?_getD, List.getElem?_eq_getElem hl]
  rfl
theorem words8_any (w : World) : Calls Tryd.prog 8 #[] w fun e w' => e = .returned (.slice (some ⟨w.heap.size, 0, none⟩) 19 19) ∧ Words8 w w' := by
  go_enter Tryd.func8, Tryd.ntmps8
  go_wp2
  go_ret
  exact ⟨rfl, (Below.refl _ _).alloc (Nat.le_refl _) _, fun k hk => cells19 w k hk _ rfl _⟩
end Go.Proofs.YtojbkdcncflbkaaDoor
