/- First sets reckoned; counting words; a call of first.Sets that is no good. -/
import Derived.Test.YthpjjlmgdalpaaaP3
namespace Go.Proofs.Ythpjjlmgdalpaaa
open Go.RowKit

/-! ### sets of words, so that the kernel can reckon them -/
def insW (x : List UInt8) : List (List UInt8) → List (List UInt8)
  | [] => [x]
  | y :: l => if x < y then x :: y :: l else if x = y then y :: l else y :: insW x l
def srtC (l : List (List UInt8)) : List (List UInt8) := l.foldr insW []
theorem insW_mem (x z : List UInt8) : ∀ l, z ∈ insW x l ↔ z = x ∨ z ∈ l := by
  intro l
  induction l with
  | nil => simp [insW]
  | cons y l ih =>
    unfold insW
    split
    · simp
    · split
      · next e => subst e; simp
      · simp only [List.mem_cons, ih]
        constructor
        · rintro (h | h | h)
          · exact .inr (.inl h)
          · exact .inl h
          · exact .inr (.inr h)
        · rintro (h | h | h)
          · exact .inr (.inl h)
          · exact .inl h
          · exact .inr (.inr h)
theorem insW_asc (x : List UInt8) : ∀ l, Asc l → Asc (insW x l) := by
  intro l
  induction l with
  | nil => intro _; exact List.pairwise_singleton _ _
  | cons y l ih =>
    intro h
    obtain ⟨h1, h2⟩ := List.pairwise_cons.1 h
    unfold insW
    split
    · next hlt =>
      refine List.pairwise_cons.2 ⟨fun z hz => ?_, h⟩
      rcases List.mem_cons.1 hz with rfl | hz
      · exact hlt
      · exact List.lt_trans hlt (h1 z hz)
    · next hge =>
      split
      · exact h
      · next hne =>
        refine List.pairwise_cons.2 ⟨fun z hz => ?_, ih h2⟩
        rcases (insW_mem x z l).1 hz with rfl | hz
        · rcases Std.lt_trichotomy z y with h | h | h
          · exact absurd h hge
          · exact absurd h hne
          · exact h
        · exact h1 z hz
theorem srtC_mem (l : List (List UInt8)) (z : List UInt8) : z ∈ srtC l ↔ z ∈ l := by
  unfold srtC
  induction l with
  | nil => simp
  | cons x l ih => rw [List.foldr_cons, insW_mem, ih, List.mem_cons]
theorem srtC_asc (l : List (List UInt8)) : Asc (srtC l) := by
  unfold srtC
  induction l with
  | nil => exact List.Pairwise.nil
  | cons x l ih => exact insW_asc x _ ih
theorem srt_C (l : List (List UInt8)) : srt l = srtC l := asc_ext (srt_asc l) (srtC_asc l) fun x => by rw [srt_mem, srtC_mem]
def ofFC (k : Nat) (L : LS) : List Int → List (List UInt8) → Option (List (List UInt8))
  | [], out => some out
  | s :: r, out => match symW L s with
    | none => none
    | some x => if (prodL k out x).length ≤ 4096 then ofFC k L r (srtC (prodL k out x)) else none
theorem ofF_C (k : Nat) (L : LS) : ∀ (syms : List Int) (out : List (List UInt8)), ofF k L syms out = ofFC k L syms out := by
  intro syms
  induction syms with
  | nil => intro out; rfl
  | cons s r ih =>
    intro out
    unfold ofF ofFC
    cases symW L s with
    | none => rfl
    | some x => simp only [srt_C, ih]
def step1C (k : Nat) (s : LS × Bool) (r : Rule) : Option (LS × Bool) :=
  match ofFC k s.1 r.right [[]] with
  | none => none
  | some x => if (srtC (s.1.getD r.left.toNat [] ++ x)).length ≤ 4096 then some (s.1.set r.left.toNat (srtC (s.1.getD r.left.toNat [] ++ x)), s.2 || decide ((s.1.getD r.left.toNat []).length < (srtC (s.1.getD r.left.toNat [] ++ x)).length)) else none
theorem step1_C (k : Nat) (s : LS × Bool) (r : Rule) : step1 k s r = step1C k s r := by
  unfold step1 step1C
  rw [ofF_C]
  cases ofFC k s.1 r.right [[]] with
  | none => rfl
  | some x => simp only [srt_C]
def roundC (k : Nat) : List Rule → LS × Bool → Option (LS × Bool)
  | [], s => some s
  | r :: rs, s => match step1C k s r with
    | none => none
    | some s' => roundC k rs s'
theorem round_C (k : Nat) : ∀ (rs : List Rule) (s : LS × Bool), roundF k rs s = roundC k rs s := by
  intro rs
  induction rs with
  | nil => intro s; rfl
  | cons r rs ih =>
    intro s
    unfold roundF roundC
    rw [step1_C]
    cases step1C k s r with
    | none => rfl
    | some s' => exact ih s'
def setsC (k : Nat) (rs : List Rule) : Nat → LS → Option (Option LS)
  | 0, _ => none
  | n + 1, L => match roundC k rs (L, false) with
    | none => some none
    | some (L', false) => some (some L')
    | some (L', true) => setsC k rs n L'
theorem sets_C (k : Nat) (rs : List Rule) : ∀ (n : Nat) (L : LS) (r r' : Option LS), setsC k rs n L = some r → SetsRes k rs L r' → r' = r := by
  intro n
  induction n with
  | zero => intro L r r' h _; cases h
  | succ n ih =>
    intro L r r' h hs
    unfold setsC at h
    cases hs with
    | limit h1 =>
      rw [round_C] at h1
      rw [h1] at h
      injection h
    | stop h1 =>
      rw [round_C] at h1
      rw [h1] at h
      injection h
    | again h1 h2 =>
      rw [round_C] at h1
      rw [h1] at h
      exact ih _ _ _ h h2

/-! ### how many pairs of a word and a set that has it -/
def cW (L : LS) (w : List UInt8) (n : Nat) : Nat := ((List.range n).filter fun a => decide (w ∈ L.getD a [])).length
theorem cW_succ (L : LS) (w : List UInt8) (n : Nat) : cW L w (n + 1) = cW L w n + if w ∈ L.getD n [] then 1 else 0 := by
  unfold cW
  rw [List.range_succ, List.filter_append, List.length_append]
  by_cases h : w ∈ L.getD n []
  · rw [if_pos h, List.filter_cons_of_pos (by exact decide_eq_true h)]; rfl
  · rw [if_neg h, List.filter_cons_of_neg (by simpa using h)]; rfl
def totW (L : LS) (ws : List (List UInt8)) (n : Nat) : Nat := (ws.map fun w => cW L w n).sum
theorem totW_snoc (L : LS) (ws : List (List UInt8)) (i n : Nat) (h : i < ws.length) : totW L (ws.take (i + 1)) n = totW L (ws.take i) n + cW L ws[i] n := by
  unfold totW
  rw [List.take_succ_eq_append_getElem h, List.map_append, List.sum_append]; simp only [List.map_cons, List.map_nil, List.sum_cons, List.sum_nil, Nat.add_zero]
def lenS (L : LS) (n : Nat) : Nat := ((List.range n).map fun a => (L.getD a []).length).sum
theorem lenS_succ (L : LS) (n : Nat) : lenS L (n + 1) = lenS L n + (L.getD n []).length := by
  unfold lenS; rw [List.range_succ]; simp
theorem totW_succ (L : LS) (ws : List (List UInt8)) (n : Nat) : totW L ws (n + 1) = totW L ws n + (ws.filter fun w => decide (w ∈ L.getD n [])).length := by
  unfold totW
  induction ws with
  | nil => rfl
  | cons w ws ih =>
    rw [List.map_cons, List.map_cons, List.sum_cons, List.sum_cons, ih, cW_succ]
    by_cases h : w ∈ L.getD n []
    · rw [if_pos h, List.filter_cons_of_pos (by exact decide_eq_true h), List.length_cons]; omega
    · rw [if_neg h, List.filter_cons_of_neg (by simpa using h)]; omega
theorem totW_eq (L : LS) (ws : List (List UInt8)) (hw : ws.Nodup) : ∀ n, (∀ a, a < n → (L.getD a []).Nodup ∧ ∀ x ∈ L.getD a [], x ∈ ws) → totW L ws n = lenS L n := by
  intro n
  induction n with
  | zero =>
    intro _
    unfold totW lenS cW
    induction ws with
    | nil => rfl
    | cons w ws ih => simpa using ih (List.nodup_cons.1 hw).2
  | succ n ih =>
    intro h
    rw [totW_succ, lenS_succ, ih fun a ha => h a (by omega), count_in hw (h n (by omega)).1 (h n (by omega)).2]
theorem lenS_le (L : LS) : ∀ {n m : Nat}, n ≤ m → lenS L n ≤ lenS L m := by
  intro n m h
  induction m with
  | zero =>
    have : n = 0 := by omega
    subst this; exact Nat.le_refl _
  | succ m ih =>
    by_cases e : n = m + 1
    · subst e; exact Nat.le_refl _
    · have := ih (by omega)
      rw [lenS_succ]; omega
theorem cW_le (L : LS) (w : List UInt8) (n : Nat) : cW L w n ≤ n := by
  unfold cW; exact Nat.le_trans (List.length_filter_le _ _) (by simp)
theorem totW_le (L : LS) (ws : List (List UInt8)) (n : Nat) : totW L ws n ≤ ws.length * n := by
  unfold totW
  induction ws with
  | nil => simp
  | cons w ws ih =>
    have := cW_le L w n
    simp only [List.map_cons, List.sum_cons, List.length_cons, Nat.add_mul]
    omega

/-! ### first.Sets, where it is asked what may not be -/
set_option maxHeartbeats 1000000 in
set_option maxRecDepth 8000 in
theorem fsets_bad (v : GV) (g : G) (k : Int) (w : World) (hg : GAt w w.heap.size v g) (hsm : g.names.length ≤ 1000000 ∧ g.terms.length ≤ 1000000) (hbad : k < 1 ∨ 4 < k ∨ ¬ WM g) :
    Calls Try.prog 25 #[.agg #[.slice v.An g.names.length v.cn, .slice v.At g.terms.length v.ct, .slice v.Ar g.rules.length v.cr], .int .i64 k] w fun e w' => e = .returned (.tuple #[.slice none 0 0, .int .i64 1]) ∧ Below w.heap.size w w' := by
  have eg := enters_of Try.func71 (by kernel_rfl) rfl
  have Hb0 := hide (Bx.self (w := w) (cs := #[.slice v.An g.names.length v.cn, .slice v.At g.terms.length v.ct, .slice v.Ar g.rules.length v.cr]) (T := 25))
  have Hb1 : Hid (Bx w #[.slice v.An g.names.length v.cn, .slice v.At g.terms.length v.ct, .slice v.Ar g.rules.length v.cr] 25 ((w.alloc (.cells #[.slice v.An g.names.length v.cn, .slice v.At g.terms.length v.ct, .slice v.Ar g.rules.length v.cr] 25)).alloc (.cells #[.int .i64 k] 3))) := Hb0.out.alloc _
  by_cases hk : k < 1 ∨ 4 < k
  · clear hg hbad
    obtain ⟨An, cn, At, ct, Ar, cr⟩ := v
    dsimp only at Hb0 Hb1
    rcases hk with hk | hk
    all_goals
      go_enter Try.func25, Try.ntmps25
      go_wp2_with fail
      go_step3
      go_wp2_with fail
      all_goals first | (exfalso; omega) | skip
      try rw [Exit.noGoto_ret]
      go_ret2
      exact ⟨rfl, Hb1.out.below⟩
  · have hw : ¬ WM g := by
      rcases hbad with h | h | h
      · exact absurd (.inl h) hk
      · exact absurd (.inr h) hk
      · exact h
    have hk1 : 1 ≤ k ∧ k ≤ 4 := by omega
    have HC1 : Hid (Calls Try.prog 62 #[.agg #[.slice v.An g.names.length v.cn, .slice v.At g.terms.length v.ct, .slice v.Ar g.rules.length v.cr]] ((w.alloc (.cells #[.slice v.An g.names.length v.cn, .slice v.At g.terms.length v.ct, .slice v.Ar g.rules.length v.cr] 25)).alloc (.cells #[.int .i64 k] 3)) fun e w' => (∃ n : Int, (n == 0) = false ∧ e = .returned (.int .i64 n)) ∧ Below ((w.alloc (.cells #[.slice v.An g.names.length v.cn, .slice v.At g.terms.length v.ct, .slice v.Ar g.rules.length v.cr] 25)).alloc (.cells #[.int .i64 k] 3)).heap.size ((w.alloc (.cells #[.slice v.An g.names.length v.cn, .slice v.At g.terms.length v.ct, .slice v.Ar g.rules.length v.cr] 25)).alloc (.cells #[.int .i64 k] 3)) w') :=
      (check_any v g _ (hg.bx Hb1.out) hsm).mono fun e w' ⟨⟨n, h1, h2⟩, h3⟩ => ⟨⟨n, by rw [beq_eq_false_iff_ne]; intro e; exact hw (h2.1 e), h1⟩, h3⟩
    clear hg hbad hw hk
    obtain ⟨An, cn, At, ct, Ar, cr⟩ := v
    dsimp only at Hb0 Hb1 HC1
    go_enter Try.func25, Try.ntmps25
    go_wp2_with fail
    go_step3
    go_wp2_with (go_at_call 62; refine HC1.out.mono ?_; rintro e W1 ⟨⟨n, hn, rfl⟩, hb1⟩; have hn2 : (n != 0) = true := (by rw [bne, hn]; rfl); have Hb2 := hide (Hb1.out.call hb1); clear hb1 HC1)
    all_goals first | (exfalso; omega) | skip
    try rw [Exit.noGoto_ret]
    go_ret2
    exact ⟨rfl, Hb2.out.below⟩
end Go.Proofs.Ythpjjlmgdalpaaa
