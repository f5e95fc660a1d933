/- fits: a rule has a grammar's symbols. twice: two rules are alike. -/
import Derived.Test.YthpjjlmgdalpaaaB7
namespace Go.Proofs.Ythpjjlmgdalpaaa
open Go.RowKit

theorem any_take_succ {α : Type} (l : List α) (p : α → Bool) (k : Nat) (h : k < l.length) : (l.take (k + 1)).any p = ((l.take k).any p || p l[k]) := by
  rw [List.take_succ_eq_append_getElem h, List.any_append]; simp
theorem any_yes {α : Type} (l : List α) (p : α → Bool) (k : Nat) (h : k < l.length) (hp : p l[k] = true) : l.any p = true := by
  rw [List.any_eq_true]; exact ⟨l[k], List.getElem_mem _, hp⟩

theorem indexfunc_int (fn : Nat) (eg : ∀ args w, (callFunc fn args).run Try.prog w = .ok (.enter fn args) w) (p : Int → Bool) (q : Addr) (w : World)
    (hp : ∀ (s : Int) (W : World), W.heap = w.heap → Calls Try.prog fn #[.int .i64 s, .pointer (some q)] W fun e w' => e = .returned (.bool (p s)) ∧ W = w')
    (A : Option Addr) (c : Nat) (l : List Int) (hA : SlAt w w.heap.size A (ints l)) (hc : l.length ≤ c) (hm : l.length ≤ 9223372036854775807) :
    Calls Try.prog 141 #[.slice A l.length c, .func (.func fn) #[] #[.pointer (some q)]] w fun e w' => (∃ n : Int, e = .returned (.int .i64 n) ∧ (0 ≤ n ↔ l.any p = true)) ∧ w = w' := by
  have Hp := hide hp
  have HA := hide hA
  clear hp hA
  go_enter Try.func141, Try.ntmps141
  go_wp2
  go_loop [8] (fun i => ∃ k : Nat, k ≤ l.length ∧ i = .int .i64 k ∧ Hid ((l.take k).any p = false)) (fun i => l.length - (intOf i).toNat)
  case atStart => exact ⟨0, Nat.zero_le _, rfl, rfl⟩
  case round =>
    obtain ⟨k, hk, rfl, hall⟩ := hrel
    by_cases hlt : k < l.length
    · obtain ⟨b, off, rfl, hb, hcs⟩ := HA.out.at_ (k := k) (by simpa using hlt)
      have c1 := hcs k _ (ints_at l k hlt)
      clear hcs
      cases hpk : p l[k]
      · have Hpk := hide hpk
        go_wp2_with ((with_reducible refine calls_id ?_); refine (Hp.out l[k] _ rfl).mono ?_; rintro e w' ⟨rfl, rfl⟩)
        go_round
        case rel => exact ⟨k + 1, by omega, by go_num, by rw [Hid, any_take_succ _ _ _ hlt, hall.out, Hpk.out]; rfl⟩
        case measure => simp [intOf]; omega
      · have Hpk := hide (any_yes l p k hlt hpk)
        go_wp2_with ((with_reducible refine calls_id ?_); refine (Hp.out l[k] _ rfl).mono ?_; rintro e w' ⟨rfl, rfl⟩)
        go_ret
        exact ⟨⟨_, rfl, by rw [Hpk.out]; simp⟩, rfl⟩
    · go_wp2_with fail
      go_ret
      have := hall.out
      rw [List.take_of_length_le (by omega)] at this
      exact ⟨⟨-1, rfl, by rw [← List.any_eq_true, this]; simp⟩, rfl⟩
theorem containsfunc_int (fn : Nat) (eg : ∀ args w, (callFunc fn args).run Try.prog w = .ok (.enter fn args) w) (p : Int → Bool) (q : Addr) (w : World)
    (hp : ∀ (s : Int) (W : World), W.heap = w.heap → Calls Try.prog fn #[.int .i64 s, .pointer (some q)] W fun e w' => e = .returned (.bool (p s)) ∧ W = w')
    (A : Option Addr) (c : Nat) (l : List Int) (hA : SlAt w w.heap.size A (ints l)) (hc : l.length ≤ c) (hm : l.length ≤ 9223372036854775807) :
    Calls Try.prog 126 #[.slice A l.length c, .func (.func fn) #[] #[.pointer (some q)]] w fun e w' => e = .returned (.bool (l.any p)) ∧ w = w' := by
  have HI := hide (indexfunc_int fn eg p q w hp A c l hA hc hm)
  clear hp hA
  revert HI
  generalize l.any p = b
  intro HI
  go_enter Try.func126, Try.ntmps126
  go_wp2_with (go_at_call 141; refine HI.out.mono ?_; rintro e w' ⟨⟨n, rfl, hn⟩, rfl⟩)
  all_goals
    go_ret
    refine ⟨ret_b ?_, rfl⟩
    cases b <;> simp at hn <;> simp <;> omega

def symB (g : G) (s : Int) : Bool := decide ((g.names.length : Int) ≤ s) || decide (s < -(g.terms.length : Int))
theorem fits1_any (v : GV) (g : G) (q : Nat) (s : Int) (w : World) (hq : ∀ i, w.cell? ⟨q, i, none⟩ = #[.slice v.An g.names.length v.cn, .slice v.At g.terms.length v.ct, .slice v.Ar g.rules.length v.cr][i]?) (hn : g.names.length ≤ 1000000 ∧ g.terms.length ≤ 1000000) :
    Calls Try.prog 127 #[.int .i64 s, .pointer (some ⟨q, 0, none⟩)] w fun e w' => e = .returned (.bool (symB g s)) ∧ w = w' := by
  obtain ⟨An, cn, At, ct, Ar, cr⟩ := v
  dsimp only at hq
  have wn : IntKind.i64.wrap (-(g.terms.length : Int)) = -(g.terms.length : Int) := IntWalk.i64_in _ (by omega)
  go_enter Try.func127, Try.ntmps127
  go_wp2
  all_goals
    go_ret
    refine ⟨ret_b ?_, rfl⟩
    rw [Bool.eq_iff_iff]
    simp [symB, *] <;> omega

def fitsB (g : G) (r : Rule) : Bool := !(decide (r.left < 0) || (decide ((g.names.length : Int) ≤ r.left) || decide (64 < r.right.length))) && !r.right.any (symB g)
theorem fitsB_iff (g : G) (r : Rule) : fitsB g r = true ↔ FitsR g r := by
  unfold fitsB FitsR symB
  simp
  constructor
  · rintro ⟨⟨h1, h2, h3⟩, h4⟩; exact ⟨by omega, by omega, by omega, fun s hs => ⟨by have := h4 s hs; omega, by have := h4 s hs; omega⟩⟩
  · rintro ⟨h1, h2, h3, h4⟩; exact ⟨⟨by omega, by omega, by omega⟩, fun s hs => ⟨by have := h4 s hs; omega, by have := h4 s hs; omega⟩⟩
theorem fits_any (v : GV) (g : G) (r : Rule) (C : Option Addr) (c : Nat) (w : World) (hC : SlAt w w.heap.size C (ints r.right)) (hc : r.right.length ≤ c) (hm : r.right.length ≤ 9223372036854775807) (hn : g.names.length ≤ 1000000 ∧ g.terms.length ≤ 1000000) :
    Calls Try.prog 96 #[.agg #[.slice v.An g.names.length v.cn, .slice v.At g.terms.length v.ct, .slice v.Ar g.rules.length v.cr], .agg #[.int .i64 r.left, .slice C r.right.length c]] w fun e w' => e = .returned (.bool (fitsB g r)) ∧ Below w.heap.size w w' := by
  have eg := enters_of Try.func127 (by kernel_rfl) rfl
  have Hb : Hid (Below w.heap.size w ((w.alloc (.cells #[.slice v.An g.names.length v.cn, .slice v.At g.terms.length v.ct, .slice v.Ar g.rules.length v.cr] 25)).alloc (.cells #[.int .i64 r.left, .slice C r.right.length c] 35))) :=
    ((Below.refl _ _).alloc (Nat.le_refl _) _).alloc (by simp) _
  have Hcall : Hid (Calls Try.prog 126 #[.slice C r.right.length c, .func (.func 127) #[] #[.pointer (some ⟨w.heap.size, 0, none⟩)]] ((w.alloc (.cells #[.slice v.An g.names.length v.cn, .slice v.At g.terms.length v.ct, .slice v.Ar g.rules.length v.cr] 25)).alloc (.cells #[.int .i64 r.left, .slice C r.right.length c] 35)) fun e w' => e = .returned (.bool (r.right.any (symB g))) ∧ ((w.alloc (.cells #[.slice v.An g.names.length v.cn, .slice v.At g.terms.length v.ct, .slice v.Ar g.rules.length v.cr] 25)).alloc (.cells #[.int .i64 r.left, .slice C r.right.length c] 35)) = w') := by
    refine containsfunc_int 127 eg (symB g) _ _ (fun s W hW => fits1_any v g w.heap.size s W ?_ hn) C c r.right ?_ hc hm
    · exact (show Blk W _ _ _ from by unfold Blk; rw [hW]; exact (Blk.new w _ _).alloc _).cell
    · exact ((hC.alloc (Nat.le_refl _) _).alloc (by simp) _).more (by simp; omega)
  clear eg hC
  obtain ⟨An, cn, At, ct, Ar, cr⟩ := v
  dsimp only at Hcall Hb
  go_enter Try.func96, Try.ntmps96
  go_wp2_with (go_at_call 126; refine Hcall.out.mono ?_; rintro e w' ⟨rfl, rfl⟩)
  all_goals
    go_ret
    refine ⟨ret_b ?_, Hb.out⟩
    clear Hb Hcall
    rw [Bool.eq_iff_iff]
    simp [fitsB, *] <;> omega

theorem equal_ints (A : Option Addr) (c : Nat) (l : List Int) (A2 : Option Addr) (c2 : Nat) (l2 : List Int) (w : World) (hA : SlAt w w.heap.size A (ints l)) (hc : l.length ≤ c) (hA2 : SlAt w w.heap.size A2 (ints l2)) (hc2 : l2.length ≤ c2)
    (hm : l.length ≤ 9223372036854775807) (hm2 : l2.length ≤ 9223372036854775807) :
    Calls Try.prog 143 #[.slice A l.length c, .slice A2 l2.length c2] w fun e w' => e = .returned (.bool (decide (l = l2))) ∧ ∃ m, w' = w.drewN m := by
  by_cases hl : l.length = l2.length
  · have HA := hide hA
    have HA2 := hide hA2
    clear hA hA2
    go_enter Try.func143, Try.ntmps143
    go_wp2
    go_loopw [13] (fun i W => (∃ m, W = w.drewN m) ∧ ∃ k : Nat, k ≤ l.length ∧ i = .int .i64 k ∧ Hid (l.take k = l2.take k)) (fun i _ => l.length - (intOf i).toNat)
    case atStart => exact ⟨⟨0, rfl⟩, 0, Nat.zero_le _, rfl, rfl⟩
    case round =>
      obtain ⟨⟨m, rfl⟩, k, hk, rfl, hall⟩ := hrel
      by_cases hlt : k < l.length
      · have hlt2 : k < l2.length := by omega
        obtain ⟨b, off, rfl, hb, hcs⟩ := HA.out.at_ (k := k) (by simpa using hlt)
        have c1 := hcs k _ (ints_at l k hlt)
        obtain ⟨b2, off2, rfl, hb2, hcs2⟩ := HA2.out.at_ (k := k) (by simpa using hlt2)
        have c2 := hcs2 k _ (ints_at l2 k hlt2)
        clear hcs hcs2
        by_cases he : l[k] = l2[k]
        · go_wp2_with (go_quiet (fail))
          go_roundw
          case rel => exact ⟨(by first | exact ⟨_, rfl⟩ | exact ⟨_, Go.World.drewN_drewN ..⟩ | exact ⟨0, rfl⟩), k + 1, by omega, by go_num, by rw [Hid, List.take_succ_eq_append_getElem hlt, List.take_succ_eq_append_getElem hlt2, hall.out, he]⟩
          case measure => simp [intOf]; omega
        · have hne : Hid (l ≠ l2) := by
            intro h; subst h; exact he rfl
          go_wp2_with (go_quiet (fail))
          go_ret
          exact ⟨ret_b (by rw [decide_eq_false hne.out]), (by first | exact ⟨_, rfl⟩ | exact ⟨_, Go.World.drewN_drewN ..⟩ | exact ⟨0, rfl⟩)⟩
      · go_wp2
        go_ret
        have he : l = l2 := eq_of_take l l2 hl (by have := hall.out; rw [show k = l.length by omega] at this; exact this)
        exact ⟨ret_b (by rw [decide_eq_true he]), ⟨m, rfl⟩⟩
  · have hne : Hid (l ≠ l2) := by intro h; subst h; exact hl rfl
    go_enter Try.func143, Try.ntmps143
    go_wp2
    go_ret
    exact ⟨ret_b (by rw [decide_eq_false hne.out]), ⟨0, rfl⟩⟩

theorem rule_eq (a b : Rule) : a = b ↔ a.left = b.left ∧ a.right = b.right := by
  cases a; cases b; simp
theorem like_any (a b : Rule) (C D : Option Addr) (c d : Nat) (w : World) (hC : SlAt w w.heap.size C (ints a.right)) (hD : SlAt w w.heap.size D (ints b.right)) (hc : a.right.length ≤ c) (hd : b.right.length ≤ d) (hm : a.right.length ≤ 9223372036854775807) (hm2 : b.right.length ≤ 9223372036854775807) :
    Calls Try.prog 130 #[.agg #[.int .i64 a.left, .slice C a.right.length c], .agg #[.int .i64 b.left, .slice D b.right.length d]] w fun e w' => e = .returned (.bool (decide (a = b))) ∧ Below w.heap.size w w' := by
  have Hb : Hid (Below w.heap.size w ((w.alloc (.cells #[.int .i64 a.left, .slice C a.right.length c] 35)).alloc (.cells #[.int .i64 b.left, .slice D b.right.length d] 35))) :=
    ((Below.refl _ _).alloc (Nat.le_refl _) _).alloc (by simp) _
  have Hcall : Hid (Calls Try.prog 143 #[.slice C a.right.length c, .slice D b.right.length d] ((w.alloc (.cells #[.int .i64 a.left, .slice C a.right.length c] 35)).alloc (.cells #[.int .i64 b.left, .slice D b.right.length d] 35)) fun e w' => e = .returned (.bool (decide (a.right = b.right))) ∧ ∃ m, w' = ((w.alloc (.cells #[.int .i64 a.left, .slice C a.right.length c] 35)).alloc (.cells #[.int .i64 b.left, .slice D b.right.length d] 35)).drewN m) :=
    equal_ints C c a.right D d b.right _ (((hC.alloc (Nat.le_refl _) _).alloc (by simp) _).more (by simp; omega)) hc (((hD.alloc (Nat.le_refl _) _).alloc (by simp) _).more (by simp; omega)) hd hm hm2
  clear hC hD
  obtain ⟨al, ar⟩ := a
  obtain ⟨bl, br⟩ := b
  dsimp only at *
  by_cases hl : al = bl
  · subst hl
    go_enter Try.func130, Try.ntmps130
    go_wp2_with (go_at_call 143; refine Hcall.out.mono ?_; rintro e w' ⟨rfl, m, rfl⟩)
    all_goals
      go_ret
      refine ⟨ret_b ?_, bdrew Hb.out _⟩
      clear Hb Hcall
      rw [Bool.eq_iff_iff, decide_eq_true_iff, decide_eq_true_iff, rule_eq]
      simp
  · have Hl := hide hl
    have hl' : decide (al = bl) = false := decide_eq_false hl
    go_enter Try.func130, Try.ntmps130
    go_wp2_with (go_at_call 143; refine Hcall.out.mono ?_; rintro e w' ⟨rfl, m, rfl⟩)
    all_goals
      go_ret
      refine ⟨ret_b ?_, Hb.out⟩
      clear Hb Hcall
      rw [Bool.eq_iff_iff, decide_eq_true_iff, rule_eq]
      simp [Hl.out]
end Go.Proofs.Ythpjjlmgdalpaaa
