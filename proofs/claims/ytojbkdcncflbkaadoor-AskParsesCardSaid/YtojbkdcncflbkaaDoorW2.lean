/- The walks of the loops over strings: the reference's plain, Cut, Number, Dec. -/
import Derived.Test.YtojbkdcncflbkaaDoorW1
import Derived.Lib.Strings
import Derived.Lib.IndexBytes
import Derived.WalkSpells
namespace Go.Proofs.YtojbkdcncflbkaaDoor
open Go.RowKit

def okByte (c : UInt8) : Bool := decide (32 ≤ c.toNat) && decide (c.toNat ≤ 126)
def plainB (l : List UInt8) : Bool := l.all okByte && decide (l.length ≤ 4000)

theorem len_ba (s : ByteArray) : s.data.toList.length = s.size := by simp
theorem getl (s : ByteArray) (k : Nat) (h : k < s.size) : s.data.toList[k]'(by simpa using h) = s[k] := rfl

theorem all_take_succ (s : ByteArray) (p : UInt8 → Bool) (k : Nat) (h : k < s.size) : (s.data.toList.take (k + 1)).all p = ((s.data.toList.take k).all p && p s[k]) := by
  rw [List.take_succ_eq_append_getElem (by simpa using h), List.all_append, getl s k h]; simp

theorem plain_no (s : ByteArray) (k : Nat) (h : k < s.size) (hb : okByte s[k] = false) : plainB s.data.toList = false := by
  unfold plainB
  rw [Bool.and_eq_false_iff]; left
  rw [List.all_eq_false]
  exact ⟨s[k], by rw [← getl s k h]; exact List.getElem_mem _, by simp [hb]⟩

theorem plain17 (s : ByteArray) (w : World) (hs : s.size ≤ maxLen) : Calls Tryd.prog 17 #[.string s] w fun e w' => e = .returned (.bool (plainB s.data.toList)) ∧ w = w' := by
  unfold maxLen at hs
  go_enter Tryd.func17, Tryd.ntmps17
  go_wp2
  go_loop [3] (fun i => ∃ k : Nat, k ≤ s.size ∧ i = .int .i64 k ∧ Hid ((s.data.toList.take k).all okByte = true)) (fun i => s.size - (intOf i).toNat)
  case atStart => exact ⟨0, Nat.zero_le _, rfl, rfl⟩
  case round =>
    obtain ⟨k, hk, rfl, hall⟩ := hrel
    go_wp2
    · have hlt : k < s.size := by assumption
      go_ret
      exact ⟨ret_b (plain_no s k hlt (by simp [okByte]; omega)).symm, rfl⟩
    · have hlt : k < s.size := by assumption
      go_ret
      exact ⟨ret_b (plain_no s k hlt (by simp [okByte]; omega)).symm, rfl⟩
    · have hlt : k < s.size := by assumption
      go_round
      case rel => exact ⟨k + 1, by omega, by go_num, by rw [Hid, all_take_succ s _ k hlt, hall.out]; simp [okByte]; omega⟩
      case measure => simp [intOf]; omega
    · go_ret
      have hk' : k = s.size := by omega
      refine ⟨ret_b ?_, rfl⟩
      have h := hall.out
      rw [List.take_of_length_le (by simp; omega)] at h
      simp [plainB, h]; omega

theorem hide {p : Prop} (h : p) : Hid p := h

/-- A text up to its first space, and what stands behind it. -/
def cutSp : List UInt8 → List UInt8 × List UInt8 × Bool
  | [] => ([], [], false)
  | c :: r => if c.toNat = 32 then ([], r, true) else (c :: (cutSp r).1, (cutSp r).2.1, (cutSp r).2.2)

theorem cutSp_at (l : List UInt8) : ∀ k, k < l.length → (∀ c ∈ l.take k, c.toNat ≠ 32) → (l[k]?).map (·.toNat) = some 32 → cutSp l = (l.take k, l.drop (k + 1), true) := by
  induction l with
  | nil => intro k h; simp at h
  | cons c r ih =>
    intro k hk hn h32
    cases k with
    | zero => simp at h32; simp [cutSp, h32]
    | succ k =>
      have hc : c.toNat ≠ 32 := hn c (by simp)
      have := ih k (by simpa using hk) (fun d hd => hn d (by simp [hd])) (by simpa using h32)
      simp [cutSp, hc, this]
theorem cutSp_none (l : List UInt8) (hn : ∀ c ∈ l, c.toNat ≠ 32) : cutSp l = (l, [], false) := by
  induction l with
  | nil => rfl
  | cons c r ih =>
    have hc : c.toNat ≠ 32 := hn c (by simp)
    simp [cutSp, hc, ih (fun d hd => hn d (by simp [hd]))]


def CutPost (s : ByteArray) (w : World) (e : Ending) (w' : World) : Prop :=
  ∃ (a b : ByteArray) (c : Bool), e = .returned (.tuple #[.string a, .string b, .bool c]) ∧ (a.data.toList, b.data.toList, c) = cutSp s.data.toList ∧ ∃ n, w' = w.drewN n

theorem cut_yes (s : ByteArray) (k : Nat) (h : k < s.size) (hn : ∀ c ∈ s.data.toList.take k, c.toNat ≠ 32) (h32 : s[k].toNat = 32) :
    ((s.extract 0 k).data.toList, (s.extract (k + 1) s.size).data.toList, true) = cutSp s.data.toList := by
  rw [cutSp_at s.data.toList k (by simpa using h) hn (by rw [List.getElem?_eq_getElem (by simpa using h), getl s k h]; simp [h32]), Lib.extract_data, Lib.extract_to_end]
  simp
theorem cut_no (s : ByteArray) (hn : ∀ c ∈ s.data.toList, c.toNat ≠ 32) : (s.data.toList, (⟨#[]⟩ : ByteArray).data.toList, false) = cutSp s.data.toList := by
  rw [cutSp_none _ hn]

theorem cut22 (s : ByteArray) (w : World) (hs : s.size ≤ maxLen) : Calls Tryd.prog 22 #[.string s] w (CutPost s w) := by
  unfold maxLen at hs
  go_enter Tryd.func22, Tryd.ntmps22
  go_wp2
  go_loop [5] (fun i => ∃ k : Nat, k ≤ s.size ∧ i = .int .i64 k ∧ Hid (∀ c ∈ s.data.toList.take k, c.toNat ≠ 32)) (fun i => s.size - (intOf i).toNat)
  case atStart => exact ⟨0, Nat.zero_le _, rfl, fun c hc => by simp at hc⟩
  case round =>
    obtain ⟨k, hk, rfl, hall⟩ := hrel
    by_cases hlt : k < s.size
    · by_cases h32 : s[k].toNat = 32
      · have h32' : ((s[k].toNat : Int) == 32) = true := by simp [h32]
        have HS : Hid (s[k].toNat = 32) := h32; clear h32
        go_wp2
        go_quiet (fail)
        go_wp2
        go_ret3
        exact ⟨_, _, _, rfl, cut_yes s k hlt hall.out HS.out, _, rfl⟩
      · have h32' : ((s[k].toNat : Int) == 32) = false := by simp; omega
        go_wp2
        go_round
        case rel => exact ⟨k + 1, by omega, by go_num, by
          intro c hc
          rw [List.take_succ_eq_append_getElem (by simpa using hlt), List.mem_append] at hc
          rcases hc with hc | hc
          · exact hall.out c hc
          · simp at hc; subst hc; exact h32⟩
        case measure => simp [intOf]; omega
    · go_wp2
      go_ret3
      have h := hall.out
      rw [List.take_of_length_le (by simp; omega)] at h
      exact ⟨_, _, _, rfl, cut_no s h, 0, rfl⟩

/-- The digit's text. -/
theorem digit_at (r : Nat) (h : r < 10) : (⟨#[48, 49, 50, 51, 52, 53, 54, 55, 56, 57]⟩ : ByteArray).extract r (r + 1) = ⟨#[UInt8.ofNat (48 + r)]⟩ := by
  match r, h with
  | 0, _ | 1, _ | 2, _ | 3, _ | 4, _ | 5, _ | 6, _ | 7, _ | 8, _ | 9, _ => rfl


theorem run_digit (r : Nat) (h : r < 10) (w : World) : (Instr.slice 9 (.string ⟨#[48, 49, 50, 51, 52, 53, 54, 55, 56, 57]⟩) (some (.int .i64 (r : Int))) (some (.int .i64 ((r : Int) + 1))) none).run Tryd.prog w = .ok (.string ⟨#[UInt8.ofNat (48 + r)]⟩) w := by
  have := run_slice_string (P := Tryd.prog) w 9 ⟨#[48, 49, 50, 51, 52, 53, 54, 55, 56, 57]⟩ .i64 .i64 (r : Int) ((r : Int) + 1) Tryd.underlying9 (by omega) (by omega) (by show _ ≤ ((10 : Nat) : Int); omega)
  rw [this, show (r : Int).toNat = r from by omega, show ((r : Int) + 1).toNat = r + 1 from by omega, digit_at r h]

def DecPost (n : Nat) (w : World) (e : Ending) (w' : World) : Prop :=
  e = .returned (.string ⟨(Lib.decDigits n).toArray⟩) ∧ ∃ k, w' = w.drewN k

theorem dec_len (u : Nat) : (Lib.decDigits u).length ≤ u + 1 := by
  induction u using Nat.strongRecOn with
  | _ u ih =>
    rw [Lib.decDigits]
    split
    · simp
    · have := ih (u / 10) (by omega)
      simp; omega

theorem dec_ret (n : Nat) (h : ¬ n < 10) : (⟨(Lib.decDigits n).toArray⟩ : ByteArray) = ⟨(Lib.decDigits (n / 10)).toArray⟩ ++ ⟨#[48 + UInt8.ofNat (n % 10)]⟩ := by
  rw [Lib.decDigits, dif_neg h]
  apply ByteArray.ext
  simp

theorem dec_small (n : Nat) (w : World) (h10 : n < 10) : Calls Tryd.prog 18 #[.int .i64 (n : Int)] w (DecPost n w) := by
  have hn0 : (0 : Int) ≤ (n : Int) := by omega
  have hn1 : (n : Int) < 10 := by omega
  have hd := run_digit n h10
  go_enter Tryd.func18, Tryd.ntmps18
  go_wp2_with fail
  go_ret
  exact ⟨ret_s (by rw [Lib.decDigits, dif_pos h10]; simp), 0, rfl⟩

theorem quiet_all {P : Program} {f : FuncId} {args : Array Value} {v : Value} (h : ∀ W : World, Calls P f args W fun e w' => e = .returned v ∧ ∃ m, w' = W.drewN m) (w : World) (n : Nat) :
    Calls P f args (w.drewN n) fun e w'' => e = .returned v ∧ ∃ m, w'' = w.drewN m := Calls.quiet_of (h _)

theorem dec_any (m : Nat) : ∀ (n : Nat) (w : World), n ≤ m → n ≤ 9223372036854775807 → Calls Tryd.prog 18 #[.int .i64 (n : Int)] w (DecPost n w) := by
  induction m with
  | zero =>
    intro n w hn _
    exact dec_small n w (by omega)
  | succ m ih =>
    intro n w hn hmax
    by_cases h10 : n < 10
    · exact dec_small n w h10
    · have hn0 : (0 : Int) ≤ (n : Int) := by omega
      have hn1 : ¬ (n : Int) < 10 := by omega
      have hd := run_digit (n % 10) (by omega)
      have ihn := fun w => ih (n / 10) w (by omega) (by omega)
      have e1 : ((n / 10 : Nat) : Int) = (n : Int) / 10 := by omega
      have e2 : ((n % 10 : Nat) : Int) = (n : Int) % 10 := by omega
      rw [e1] at ihn
      rw [e2] at hd
      have ihn' : ∀ w, Calls Tryd.prog 18 #[.int .i64 ((n : Int) / 10)] w fun e w' => e = .returned (.string ⟨(Lib.decDigits (n / 10)).toArray⟩) ∧ ∃ k, w' = w.drewN k := ihn
      clear ih e1 e2 ihn
      have H := hide (dec_ret n h10)
      have q1 : IntKind.i64.wrap ((n : Int) / 10) = (n : Int) / 10 := IntWalk.i64_in _ (by omega)
      have q2 : IntKind.i64.wrap ((n : Int) % 10 + 1) = (n : Int) % 10 + 1 := IntWalk.i64_in _ (by omega)
      have hsz : ¬ (Lib.decDigits (n / 10)).length + 1 > 9223372036854775807 := by have := dec_len (n / 10); omega
      have q4 : (n : Int).tmod 10 = (n : Int) % 10 := Int.tmod_eq_emod_of_nonneg hn0
      have q3 : IntKind.i64.wrap ((n : Int) % 10) = (n : Int) % 10 := IntWalk.i64_in _ (by omega)
      go_enter Tryd.func18, Tryd.ntmps18
      go_wp2_with fail
      go_quiet ((go_at_call 18; exact quiet_all ihn' _ _))
      go_wp2_with fail
      go_ret
      exact ⟨ret_s (by rw [H.out]), _, rfl⟩

theorem dec_calls (n : Int) (w : World) (h0 : 0 ≤ n) (h1 : n ≤ 9223372036854775807) : Calls Tryd.prog 18 #[.int .i64 n] w fun e w' => e = .returned (.string ⟨(Lib.decDigits n.toNat).toArray⟩) ∧ ∃ k, w' = w.drewN k := by
  obtain ⟨m, rfl⟩ := Int.eq_ofNat_of_zero_le h0
  exact (dec_any m m w (Nat.le_refl _) (by omega)).mono fun _ _ h => h

end Go.Proofs.YtojbkdcncflbkaaDoor
