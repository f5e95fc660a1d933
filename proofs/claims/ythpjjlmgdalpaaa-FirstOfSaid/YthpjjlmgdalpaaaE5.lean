/- ref20.First. -/
import Derived.Test.YthpjjlmgdalpaaaE4
namespace Go.Proofs.Ythpjjlmgdalpaaa
open Go.RowKit

/-- The word is among the first k letters of something that comes of the symbols, by the table. -/
def FirP (wl : List UInt8) (E : Nat → Nat → Nat → Bool) (F : Nat → Nat → Bool) (k : Int) (syms : List Int) : Prop :=
  ((wl.length : Int) = k ∧ BegP wl E F syms 0) ∨ ((wl.length : Int) < k ∧ Path wl E syms 0 wl.length)

set_option maxHeartbeats 2000000 in
set_option maxRecDepth 8000 in
theorem first20_any (G0 G1 G2 : Value) (X : ByteArray) (T : TV) (n : Nat) (E : Nat → Nat → Nat → Bool) (F : Nat → Nat → Bool) (A : Option Addr) (c : Nat) (syms : List Int) (k : Int) (w : World) (hT : TabAt w T n X.size E F) (hm : X.size ≤ 1000) (hA : SlAt w w.heap.size A (ints syms)) (hc : syms.length ≤ c) (hl : syms.length ≤ 1000000)
    (hs : ∀ s ∈ syms, -1000000 ≤ s ∧ s < n) (hn : n ≤ T.ec) (hn2 : T.ec ≤ 9223372036854775807) (hn3 : n ≤ T.fc) (hn4 : T.fc ≤ 9223372036854775807) :
    Calls Try.prog 28 #[.agg #[G0, G1, G2, .string X, .slice (some ⟨T.eb, 0, none⟩) n T.ec, .slice (some ⟨T.fb, 0, none⟩) n T.fc], .int .i64 k, .slice A syms.length c] w fun e w' =>
      e = .returned (.bool (bool (FirP X.data.toList E F k syms))) ∧ Below w.heap.size w w' := by
  have Hb0 := hide (Bx.self (w := w) (cs := #[G0, G1, G2, .string X, .slice (some ⟨T.eb, 0, none⟩) n T.ec, .slice (some ⟨T.fb, 0, none⟩) n T.fc]) (T := 48))
  have hXl : Hid (X.data.toList.length = X.size) := by unfold Hid; simp
  obtain ⟨W, hW⟩ : ∃ W, W = w.alloc (.cells #[G0, G1, G2, .string X, .slice (some ⟨T.eb, 0, none⟩) n T.ec, .slice (some ⟨T.fb, 0, none⟩) n T.fc] 48) := ⟨_, rfl⟩
  have hTW := hT.call Hb0.out.below
  have hAW : SlAt (w.alloc (.cells #[G0, G1, G2, .string X, .slice (some ⟨T.eb, 0, none⟩) n T.ec, .slice (some ⟨T.fb, 0, none⟩) n T.fc] 48)) (w.alloc (.cells #[G0, G1, G2, .string X, .slice (some ⟨T.eb, 0, none⟩) n T.ec, .slice (some ⟨T.fb, 0, none⟩) n T.fc] 48)).heap.size A (ints syms) := (hA.below Hb0.out.below).more Hb0.out.below.size
  by_cases hk : (X.size : Int) = k
  · have hB := hide (begins_any G0 G1 G2 X T n E F A c syms 0 _ hTW hm hAW hc hl hs hn hn2 hn3 hn4 (by omega))
    have hres : Hid (bool (BegP X.data.toList E F syms 0) = bool (FirP X.data.toList E F k syms)) := by
      apply bool_eq
      rw [bool_iff]
      unfold FirP
      rw [hXl.out]
      constructor
      · intro h; exact .inl ⟨hk, h⟩
      · rintro (⟨_, h⟩ | ⟨h, _⟩)
        · exact h
        · omega
    clear hT hA hTW hAW hs hW
    subst hk
    go_enter Try.func28, Try.ntmps28
    go_wp2_with (go_at_call 74; refine hB.out.mono ?_; rintro e w1 ⟨rfl, hb1⟩)
    all_goals first | (exfalso; omega) | skip
    go_ret
    exact ⟨ret_b hres.out, (Hb0.out.call hb1).below⟩
  · have hne : ((X.size : Int) == k) = false := by rw [beq_eq_false_iff_ne]; exact hk
    by_cases hlt : (X.size : Int) < k
    · have hd : decide ((X.size : Int) < k) = true := decide_eq_true hlt
      have hEn : Hid (∀ W' : World, W'.heap = (w.alloc (.cells #[G0, G1, G2, .string X, .slice (some ⟨T.eb, 0, none⟩) n T.ec, .slice (some ⟨T.fb, 0, none⟩) n T.fc] 48)).heap → Calls Try.prog 73 #[.agg #[G0, G1, G2, .string X, .slice (some ⟨T.eb, 0, none⟩) n T.ec, .slice (some ⟨T.fb, 0, none⟩) n T.fc], .slice A syms.length c, .int .i64 0] W' fun e w' =>
          (∃ b, e = .returned (.slice (some ⟨b, 0, none⟩) (X.size + 1) (X.size + 1)) ∧ w'.cell? ⟨b, X.size, none⟩ = some (.bool (bool (FirP X.data.toList E F k syms)))) ∧ Below W'.heap.size W' w') := by
        intro W' hW'
        have hT2 : TabAt W' T n X.size E F := ⟨fun s hs => by have h := hTW.e0 s hs; unfold World.cell? at h ⊢; rw [hW']; exact h, fun s hs p hp => by have h := hTW.e1 s hs p hp; unfold World.cell? at h ⊢; rw [hW']; exact h, fun s hs p hp q hq => by have h := hTW.e2 s hs p hp q hq; unfold World.cell? at h ⊢; rw [hW']; exact h, fun s hs => by have h := hTW.f0 s hs; unfold World.cell? at h ⊢; rw [hW']; exact h, fun s hs q hq => by have h := hTW.f1 s hs q hq; unfold World.cell? at h ⊢; rw [hW']; exact h⟩
        refine (ends_any G0 G1 G2 X T n E F A c syms 0 W' hT2 hm ((hAW.heap hW').more (by rw [hW']; exact Nat.le_refl _)) hc hl hs hn hn2 (by omega)).mono ?_
        rintro e w' ⟨⟨b, R, rfl, _, hR, hRl, hsp⟩, hb⟩
        refine ⟨⟨b, rfl, ?_⟩, hb⟩
        rw [hR.at_ X.size (by omega)]
        congr 2
        apply bool_eq
        rw [hsp X.size (Nat.le_refl _)]
        unfold FirP
        rw [hXl.out]
        constructor
        · intro h; exact .inr ⟨hlt, h⟩
        · rintro (⟨h, _⟩ | ⟨_, h⟩)
          · omega
          · exact h
      clear hT hA hTW hAW hs hW
      generalize bool (FirP X.data.toList E F k syms) = z at hEn ⊢
      go_enter Try.func28, Try.ntmps28
      go_wp2_with fail
      go_region_with (go_at_call 73; refine (hEn.out (World.drew _) rfl).mono ?_; rintro e w1 ⟨⟨b, rfl, hcb⟩, hb1⟩; have hXc : w1.cell? ⟨w.heap.size, 3, none⟩ = some (.string X) := ((Hb0.out.drew.call hb1).cell 3))
      all_goals
        go_wp2_with fail
        go_ret
        exact ⟨rfl, (Hb0.out.drew.call hb1).below⟩
    · have hd : decide ((X.size : Int) < k) = false := decide_eq_false hlt
      have hres : Hid (bool (FirP X.data.toList E F k syms) = false) := by
        apply bool_false
        unfold FirP
        rw [hXl.out]
        rintro (⟨h, _⟩ | ⟨h, _⟩) <;> omega
      clear hT hA hTW hAW hs hW
      go_enter Try.func28, Try.ntmps28
      go_wp2_with (go_quiet (fail))
      all_goals first | (exfalso; omega) | skip
      go_ret
      exact ⟨ret_b hres.out.symm, (Hb0.out.drewN _).below⟩
end Go.Proofs.Ythpjjlmgdalpaaa
