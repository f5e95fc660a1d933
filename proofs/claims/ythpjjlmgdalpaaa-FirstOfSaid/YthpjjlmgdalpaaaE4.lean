/- ref20.Begins. -/
import Derived.Test.YthpjjlmgdalpaaaE3
namespace Go.Proofs.Ythpjjlmgdalpaaa
open Go.RowKit

/-- A string of symbols, from a place on, comes to the word's end, or to a symbol of which that can be said. -/
def BegP (wl : List UInt8) (E : Nat → Nat → Nat → Bool) (F : Nat → Nat → Bool) (syms : List Int) (a : Nat) : Prop :=
  (∃ i, i ≤ syms.length ∧ Path wl E (syms.take i) a wl.length) ∨ ∃ i, ∃ h : i < syms.length, ∃ p, p ≤ wl.length ∧ 0 ≤ syms[i] ∧ Path wl E (syms.take i) a p ∧ F syms[i].toNat p = true

set_option maxHeartbeats 2000000 in
set_option maxRecDepth 8000 in
theorem begins_any (G0 G1 G2 : Value) (X : ByteArray) (T : TV) (n : Nat) (E : Nat → Nat → Nat → Bool) (F : Nat → Nat → Bool) (A : Option Addr) (c : Nat) (syms : List Int) (a : Nat) (w : World) (hT : TabAt w T n X.size E F) (hm : X.size ≤ 1000) (hA : SlAt w w.heap.size A (ints syms)) (hc : syms.length ≤ c) (hl : syms.length ≤ 1000000)
    (hs : ∀ s ∈ syms, -1000000 ≤ s ∧ s < n) (hn : n ≤ T.ec) (hn2 : T.ec ≤ 9223372036854775807) (hn3 : n ≤ T.fc) (hn4 : T.fc ≤ 9223372036854775807) (ha : a ≤ X.size) :
    Calls Try.prog 74 #[.agg #[G0, G1, G2, .string X, .slice (some ⟨T.eb, 0, none⟩) n T.ec, .slice (some ⟨T.fb, 0, none⟩) n T.fc], .slice A syms.length c, .int .i64 a] w fun e w' =>
      e = .returned (.bool (bool (BegP X.data.toList E F syms a))) ∧ Below w.heap.size w w' := by
  have hmk : ∀ W : World, (Instr.makeSlice 59 (.int .i64 ((X.size : Int) + 1)) (.int .i64 ((X.size : Int) + 1))).run Try.prog W = .ok (.slice (some ⟨W.heap.size, 0, none⟩) (X.size + 1) (X.size + 1)) (W.alloc (.cells (bools (List.replicate (X.size + 1) false)).toArray 4)) := fun W => make_bools W (X.size + 1) (by omega)
  have w1 : IntKind.i64.wrap ((X.size : Int) + 1) = (X.size : Int) + 1 := IntWalk.i64_in _ (by omega)
  have Hb0 := hide (Bx.self (w := w) (cs := #[G0, G1, G2, .string X, .slice (some ⟨T.eb, 0, none⟩) n T.ec, .slice (some ⟨T.fb, 0, none⟩) n T.fc]) (T := 48))
  have HT := hide hT; have HA := hide hA; have Hs := hide hs
  have hXl : Hid (X.data.toList.length = X.size) := by unfold Hid; simp
  have e00 : (Array.replicate (X.size + 1) (Value.bool false))[a]? = some (.bool false) := by rw [Array.getElem?_replicate, if_pos (by omega)]
  clear hT hA hs
  go_enter Try.func74, Try.ntmps74
  go_wp2_with fail
  clear hmk e00
  all_goals first | (exfalso; omega) | skip
  go_loopw [8, 9] (fun v y V => ∃ W, W = V ∧ Bx w #[G0, G1, G2, .string X, .slice (some ⟨T.eb, 0, none⟩) n T.ec, .slice (some ⟨T.fb, 0, none⟩) n T.fc] 48 W ∧ ∃ (j b : Nat) (R : List Bool), j ≤ syms.length ∧ y = .int .i64 j ∧ v = .slice (some ⟨b, 0, none⟩) (X.size + 1) (X.size + 1) ∧ w.heap.size ≤ b ∧ BB W b R ∧ R.length = X.size + 1 ∧ Hid ((∀ q, q ≤ X.size → (R.getD q false = true ↔ Path X.data.toList E (syms.take j) a q)) ∧ (∀ i, i < j → ¬ Path X.data.toList E (syms.take i) a X.size) ∧ ∀ i (h : i < syms.length), i < j → ∀ p, p ≤ X.size → 0 ≤ syms[i] → Path X.data.toList E (syms.take i) a p → F syms[i].toNat p ≠ true)) (fun _ y _ => syms.length - (intOf y).toNat)
  case atStart =>
    refine ⟨_, rfl, Hb0.out.alloc _, 0, w.heap.size + 1, (List.replicate (X.size + 1) false).set a true, by omega, rfl, rfl, by omega, ?_, by simp, fun q hq => ?_, fun i h => by omega, fun i _ h => by omega⟩
    · have := Blk.new (w.alloc (.cells #[G0, G1, G2, .string X, .slice (some ⟨T.eb, 0, none⟩) n T.ec, .slice (some ⟨T.fb, 0, none⟩) n T.fc] 48)) 4 ((Array.replicate (X.size + 1) (Value.bool false)).setIfInBounds a (Value.bool true))
      have e : (bools ((List.replicate (X.size + 1) false).set a true)).toArray = (Array.replicate (X.size + 1) (Value.bool false)).setIfInBounds a (Value.bool true) := by
        apply Array.ext'; simp [List.map_set]
      unfold BB
      rw [e]
      simpa using this
    · rw [getD_set _ _ _ (by simp; omega)]
      simp only [List.take_zero, Path]
      constructor
      · rintro (h | h)
        · exact h.symm
        · simp [List.getD, show q < X.size + 1 by omega] at h
      · rintro rfl; exact .inl rfl
  case round =>
    clear Hb0
    obtain ⟨W, rfl, hbx, j, b, R, hj, rfl, rfl, hwb, hR, hRl, hspec⟩ := hrel
    have cT := hbx.cell
    have hsz := hbx.lt
    have hbl := hR.lt
    have eN := hR.at_ X.size (by omega)
    by_cases hlt : j < syms.length
    · cases hz : R.getD X.size false
      · rw [hz] at eN
        have Hz := hide hz
        clear hz
        obtain ⟨b1, off1, rfl, hb1, hcs⟩ := HA.out.at_ (k := j) (by simpa using hlt)
        have d1 := (hbx.below.cell (p := ⟨b1, off1 + j, none⟩) hb1).trans (hcs j _ (ints_at syms j hlt))
        have hsb := Hs.out _ (List.getElem_mem hlt)
        have HTW := hide (HT.out.call hbx.below)
        have HR := hide hR
        have Hb := hide hbx
        clear hcs hR hbx
        go_wp2_with fail
        clear eN
        go_loopw [10] (fun y V => ∃ U, U = V ∧ Hid (∃ m, U = W.drewN m) ∧ ∃ k : Nat, k ≤ X.size + 1 ∧ y = .int .i64 k ∧ Hid (∀ p, p < k → p ≤ X.size → 0 ≤ syms[j] → R.getD p false = true → F syms[j].toNat p ≠ true)) (fun y _ => X.size + 1 - (intOf y).toNat)
        case atStart => exact ⟨_, rfl, ⟨0, rfl⟩, 0, by omega, rfl, fun p h => by omega⟩
        case round =>
          obtain ⟨U, rfl, hU, k, hk, rfl, hno⟩ := hrel
          have hUh : U.heap = W.heap := by obtain ⟨m, rfl⟩ := hU.out; rfl
          have cU : ∀ i, U.cell? ⟨w.heap.size, i, none⟩ = #[G0, G1, G2, .string X, .slice (some ⟨T.eb, 0, none⟩) n T.ec, .slice (some ⟨T.fb, 0, none⟩) n T.fc][i]? := by obtain ⟨m, rfl⟩ := hU.out; exact cT
          have dU : U.cell? ⟨b1, off1 + j, none⟩ = some (.int .i64 syms[j]) := by obtain ⟨m, rfl⟩ := hU.out; exact d1
          have HbU : Hid (Bx w #[G0, G1, G2, .string X, .slice (some ⟨T.eb, 0, none⟩) n T.ec, .slice (some ⟨T.fb, 0, none⟩) n T.fc] 48 U) := by obtain ⟨m, rfl⟩ := hU.out; exact Hb.out.drewN m
          have HRU : Hid (BB U b R) := by unfold Hid BB Blk; rw [hUh]; exact HR.out
          by_cases hk2 : k ≤ X.size ∧ 0 ≤ syms[j]
          · obtain ⟨hkx, h0⟩ := hk2
            obtain ⟨m, hm2⟩ := Int.eq_ofNat_of_zero_le h0
            have hmn : m < n := by omega
            have t0 : U.cell? ⟨T.fb, m, none⟩ = some (.slice (some ⟨T.fr m, 0, none⟩) (X.size + 1) (X.size + 1)) := by obtain ⟨q, rfl⟩ := hU.out; exact HTW.out.f0 m hmn
            have t1 : U.cell? ⟨T.fr m, k, none⟩ = some (.bool (F m k)) := by obtain ⟨q, rfl⟩ := hU.out; exact HTW.out.f1 m hmn k hkx
            have t2 := HRU.out.at_ k (by omega)
            have Hm2 := hide hm2
            have hkx' : (k : Int) ≤ X.size := by omega
            rw [hm2] at dU h0 hsb
            clear d1 cT hm2 hUh
            have hstep : Hid ((R.getD k false = true → F m k ≠ true) → ∀ p, p < k + 1 → p ≤ X.size → 0 ≤ syms[j] → R.getD p false = true → F syms[j].toNat p ≠ true) := by
              intro hx p hp hpx hp0 hpR
              rcases Nat.lt_or_ge p k with h | h
              · exact hno.out p h hpx hp0 hpR
              · obtain rfl : p = k := by omega
                rw [Hm2.out]; exact hx hpR
            cases hr : R.getD k false
            · rw [hr] at t2
              have Hno := hide (hstep.out fun h => by rw [hr] at h; cases h)
              clear hr
              go_wp2_with (go_quiet (fail))
              all_goals first | (exfalso; omega) | skip
              go_roundw
              case rel => exact ⟨_, rfl, by obtain ⟨q, rfl⟩ := hU.out; exact (by first | exact ⟨_, rfl⟩ | exact ⟨_, Go.World.drewN_drewN ..⟩ | exact ⟨0, rfl⟩), k + 1, by omega, by go_num, Hno.out⟩
              case measure => simp [intOf]; omega
            · rw [hr] at t2
              cases hf : F m k
              · rw [hf] at t1
                have Hno := hide (hstep.out fun _ => by rw [hf]; exact Bool.false_ne_true)
                clear hr hf
                go_wp2_with (go_quiet (fail))
                all_goals first | (exfalso; omega) | skip
                go_roundw
                case rel => exact ⟨_, rfl, by obtain ⟨q, rfl⟩ := hU.out; exact (by first | exact ⟨_, rfl⟩ | exact ⟨_, Go.World.drewN_drewN ..⟩ | exact ⟨0, rfl⟩), k + 1, by omega, by go_num, Hno.out⟩
                case measure => simp [intOf]; omega
              · rw [hf] at t1
                have Hyes : Hid (BegP X.data.toList E F syms a) :=
                  .inr ⟨j, hlt, k, by rw [hXl.out]; exact hkx, by rw [Hm2.out]; omega, (hspec.out.1 k hkx).1 hr, by rw [Hm2.out]; exact hf⟩
                clear hr hf
                go_wp2_with (go_quiet (fail))
                all_goals first | (exfalso; omega) | skip
                go_ret
                exact ⟨ret_b (bool_true Hyes.out).symm, (HbU.out.drewN _).below⟩
          · have Hmv := hide (fun (W' : World) (hW : W'.heap = W.heap) => move_any G0 G1 G2 X T n X.size E F syms[j] b R W' (by
                have := HTW.out
                exact ⟨fun s hs => by have h := this.e0 s hs; unfold World.cell? at h ⊢; rw [hW]; exact h, fun s hs p hp => by have h := this.e1 s hs p hp; unfold World.cell? at h ⊢; rw [hW]; exact h, fun s hs p hp q hq => by have h := this.e2 s hs p hp q hq; unfold World.cell? at h ⊢; rw [hW]; exact h, fun s hs => by have h := this.f0 s hs; unfold World.cell? at h ⊢; rw [hW]; exact h, fun s hs q hq => by have h := this.f1 s hs q hq; unfold World.cell? at h ⊢; rw [hW]; exact h⟩) rfl hm (show BB W' b R from by unfold BB Blk; rw [hW]; exact HR.out) hRl hsb.1 hsb.2 hn hn2)
            have Hno : Hid (∀ p, p ≤ X.size → 0 ≤ syms[j] → R.getD p false = true → F syms[j].toNat p ≠ true) := by
              intro p hp h0 hr
              refine hno.out p ?_ hp h0 hr
              omega
            by_cases hkx : k ≤ X.size
            · have hkx' : (k : Int) ≤ X.size := by omega
              have h0' : syms[j] < 0 := by omega
              go_wp2_with fail
              all_goals first | (exfalso; omega) | skip
              go_region_with (go_at_call 115; refine (Hmv.out U.drew hUh).mono ?_; rintro e w2 ⟨⟨b2, R2, rfl, hb2, hR2, hl2, hsp2⟩, hbw⟩)
              all_goals
                have hb3 : Bx w #[G0, G1, G2, .string X, .slice (some ⟨T.eb, 0, none⟩) n T.ec, .slice (some ⟨T.fb, 0, none⟩) n T.fc] 48 w2 := HbU.out.drew.call hbw
                have hWb : w.heap.size ≤ b2 := Nat.le_trans (Nat.le_of_lt HbU.out.lt) hb2
                have Hsp : Hid ((∀ q, q ≤ X.size → (R2.getD q false = true ↔ Path X.data.toList E (syms.take (j + 1)) a q)) ∧ (∀ i, i < j + 1 → ¬ Path X.data.toList E (syms.take i) a X.size) ∧ ∀ i (h : i < syms.length), i < j + 1 → ∀ p, p ≤ X.size → 0 ≤ syms[i] → Path X.data.toList E (syms.take i) a p → F syms[i].toNat p ≠ true) := by
                  refine ⟨fun q hq => ?_, fun i hi hP => ?_, fun i h hi p hp h0 hP => ?_⟩
                  · have hq' : q ≤ X.data.toList.length := by simpa using hq
                    rw [hsp2 q hq, List.take_succ_eq_append_getElem hlt, path_snoc _ _ _ _ _ _ hq']
                    constructor
                    · rintro ⟨p, h1, h2, h3⟩; exact ⟨p, h1, by omega, (hspec.out.1 p (by omega)).1 h2, h3⟩
                    · rintro ⟨p, h1, _, h2, h3⟩; exact ⟨p, h1, (hspec.out.1 p (by omega)).2 h2, h3⟩
                  · rcases Nat.lt_or_ge i j with h | h
                    · exact hspec.out.2.1 i h hP
                    · obtain rfl : i = j := by omega
                      have := (hspec.out.1 X.size (by omega)).2 hP
                      rw [Hz.out] at this; cases this
                  · rcases Nat.lt_or_ge i j with h1 | h1
                    · exact hspec.out.2.2 i h h1 p hp h0 hP
                    · obtain rfl : i = j := by omega
                      exact Hno.out p hp h0 ((hspec.out.1 p hp).2 hP)
                go_wp2_with fail
                go_roundw
                case rel => exact ⟨_, rfl, hb3, j + 1, b2, R2, by omega, by go_num, rfl, hWb, hR2, hl2, Hsp.out⟩
                case measure => simp [intOf]; omega
            · have hkx' : ¬ (k : Int) ≤ X.size := by omega
              go_wp2_with fail
              all_goals first | (exfalso; omega) | skip
              go_region_with (go_at_call 115; refine (Hmv.out U.drew hUh).mono ?_; rintro e w2 ⟨⟨b2, R2, rfl, hb2, hR2, hl2, hsp2⟩, hbw⟩)
              all_goals
                have hb3 : Bx w #[G0, G1, G2, .string X, .slice (some ⟨T.eb, 0, none⟩) n T.ec, .slice (some ⟨T.fb, 0, none⟩) n T.fc] 48 w2 := HbU.out.drew.call hbw
                have hWb : w.heap.size ≤ b2 := Nat.le_trans (Nat.le_of_lt HbU.out.lt) hb2
                have Hsp : Hid ((∀ q, q ≤ X.size → (R2.getD q false = true ↔ Path X.data.toList E (syms.take (j + 1)) a q)) ∧ (∀ i, i < j + 1 → ¬ Path X.data.toList E (syms.take i) a X.size) ∧ ∀ i (h : i < syms.length), i < j + 1 → ∀ p, p ≤ X.size → 0 ≤ syms[i] → Path X.data.toList E (syms.take i) a p → F syms[i].toNat p ≠ true) := by
                  refine ⟨fun q hq => ?_, fun i hi hP => ?_, fun i h hi p hp h0 hP => ?_⟩
                  · have hq' : q ≤ X.data.toList.length := by simpa using hq
                    rw [hsp2 q hq, List.take_succ_eq_append_getElem hlt, path_snoc _ _ _ _ _ _ hq']
                    constructor
                    · rintro ⟨p, h1, h2, h3⟩; exact ⟨p, h1, by omega, (hspec.out.1 p (by omega)).1 h2, h3⟩
                    · rintro ⟨p, h1, _, h2, h3⟩; exact ⟨p, h1, (hspec.out.1 p (by omega)).2 h2, h3⟩
                  · rcases Nat.lt_or_ge i j with h | h
                    · exact hspec.out.2.1 i h hP
                    · obtain rfl : i = j := by omega
                      have := (hspec.out.1 X.size (by omega)).2 hP
                      rw [Hz.out] at this; cases this
                  · rcases Nat.lt_or_ge i j with h1 | h1
                    · exact hspec.out.2.2 i h h1 p hp h0 hP
                    · obtain rfl : i = j := by omega
                      exact Hno.out p hp h0 ((hspec.out.1 p hp).2 hP)
                go_wp2_with fail
                go_roundw
                case rel => exact ⟨_, rfl, hb3, j + 1, b2, R2, by omega, by go_num, rfl, hWb, hR2, hl2, Hsp.out⟩
                case measure => simp [intOf]; omega
      · rw [hz] at eN
        have Hyes : Hid (BegP X.data.toList E F syms a) := by
          refine .inl ⟨j, by omega, ?_⟩
          rw [hXl.out]
          exact (hspec.out.1 X.size (by omega)).1 hz
        clear hz
        go_wp2_with fail
        all_goals first | (exfalso; omega) | skip
        go_ret
        exact ⟨ret_b (bool_true Hyes.out).symm, hbx.below⟩
    · obtain rfl : j = syms.length := by omega
      have Hres : Hid (R.getD X.size false = bool (BegP X.data.toList E F syms a)) := by
        apply bool_eq
        have h1 := hspec.out.1 X.size (by omega)
        rw [List.take_length] at h1
        rw [h1]
        constructor
        · intro h; exact .inl ⟨syms.length, by omega, by rw [hXl.out, List.take_length]; exact h⟩
        · rintro (⟨i, hi, h⟩ | ⟨i, hi, p, hp, h0, h1, h2⟩)
          · rcases Nat.lt_or_ge i syms.length with h3 | h3
            · rw [hXl.out] at h; exact absurd h (hspec.out.2.1 i h3)
            · obtain rfl : i = syms.length := by omega
              rw [hXl.out, List.take_length] at h; exact h
          · exact absurd h2 (hspec.out.2.2 i hi hi p (by rw [← hXl.out]; exact hp) h0 h1)
      generalize R.getD X.size false = z at eN Hres
      go_wp2_with fail
      all_goals first | (exfalso; omega) | skip
      go_ret
      exact ⟨ret_b Hres.out, hbx.below⟩
end Go.Proofs.Ythpjjlmgdalpaaa
