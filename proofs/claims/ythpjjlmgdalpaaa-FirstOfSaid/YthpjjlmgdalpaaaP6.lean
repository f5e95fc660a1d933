/- first.Of of any symbols, however great. -/
import Derived.Test.YthpjjlmgdalpaaaP5
namespace Go.Proofs.Ythpjjlmgdalpaaa
open Go.RowKit

set_option maxRecDepth 8000 in
theorem one_wide (b : Nat) (L : List (List (List UInt8))) (s : Int) (w : World) (h : SS w b L) (hL : L.length ≤ 1000000) (hs : -9223372036854775808 ≤ s ∧ s ≤ 9223372036854775807) :
    Calls Try.prog 75 #[.slice (some ⟨b, 0, none⟩) L.length L.length, .int .i64 s] w fun e w' => (∃ x, e = .returned (.tuple #[x, .bool (symW L s).isSome]) ∧ ∀ l, symW L s = some l → SV w' w'.heap.size x (wsv l)) ∧ Below w.heap.size w w' := by
  by_cases h0 : s < 0
  · have w1 : IntKind.i64.wrap (-1 - s) = -1 - s := IntWalk.i64_in _ (by omega)
    obtain ⟨c, hc⟩ : ∃ c : UInt8, c = UInt8.ofNat (-1 - s).toNat := ⟨_, rfl⟩
    have hc2 : (-1 - s) % 256 = (c.toNat : Int) := by
      rw [hc, UInt8.toNat_ofNat']; omega
    have hcv : ∀ W : World, W.cell? ⟨w.heap.size, 0, none⟩ = some (.int .u8 ((-1 - s) % 256)) → (convert 56 9 (.slice (some ⟨w.heap.size, 0, none⟩) 1 1)).run Try.prog W = .ok (.string ⟨#[c]⟩) W := by
      intro W hW
      have := run_convert_bytes_back (P := Try.prog) W 56 9 5 ⟨w.heap.size, 0, none⟩ 1 [c] Try.underlying56 Try.underlying5 Try.underlying9 (fun j hj => by
        have hj0 : j = 0 := by simpa using hj
        subst hj0
        rw [hc2] at hW
        simpa [Addr.add] using hW)
      simpa using this
    have hcv1 := hcv (w.alloc (.cells #[.int .u8 ((-1 - s) % 256)] 5)) ((Blk.new w 5 #[.int .u8 ((-1 - s) % 256)]).cell 0)
    have hd : decide (s < 0) = true := decide_eq_true h0
    have Hc := hide hc
    have Hb : Hid (Below w.heap.size w ((w.alloc (.cells #[.int .u8 ((-1 - s) % 256)] 5)).alloc (.cells #[.string ⟨#[c]⟩] 9))) := ((Below.refl _ _).alloc (Nat.le_refl _) _).alloc (by simp) _
    have Hsl := hide (SlAt.lit (w.alloc (.cells #[.int .u8 ((-1 - s) % 256)] 5)) 9 [.string ⟨#[c]⟩])
    clear hcv hc2 hc h
    go_enter Try.func75, Try.ntmps75
    go_wp2_with (go_at_call 78; refine (isterm_fn _ _).mono ?_; rintro e w' ⟨rfl, rfl⟩)
    all_goals first | (exfalso; omega) | skip
    go_ret2
    refine ⟨⟨.slice (some ⟨w.heap.size + 1, 0, none⟩) 1 1, ?_, fun l hl => ?_⟩, Hb.out⟩
    · congr 3
      simp only [symW, if_pos h0]
      by_cases h256 : -256 ≤ s
      · simp [h256]
      · simp [h256]
    · simp only [symW, if_pos h0] at hl
      split at hl
      · injection hl with hl
        subst hl
        refine ⟨_, 1, by rw [← Hc.out]; rfl, by simp, by omega, ?_, fun h => by cases h⟩
        have h1 := Hsl.out
        have e1 : (w.alloc (.cells #[.int .u8 ((-1 - s) % 256)] 5)).heap.size = w.heap.size + 1 := by simp
        rw [e1] at h1
        rw [← Hc.out]
        exact h1.more (by simp)
      · cases hl
  · obtain ⟨m, rfl⟩ := Int.eq_ofNat_of_zero_le (by omega : 0 ≤ s)
    have hd : decide ((m : Int) < 0) = false := decide_eq_false h0
    by_cases hm : m < L.length
    · obtain ⟨x, hx1, hx2⟩ := h.at_ m hm
      have hsy : symW L (m : Int) = some L[m] := by
        unfold symW; rw [if_neg (by omega), Int.toNat_natCast, List.getElem?_eq_getElem hm]
      have hS := hide (SV.of_own hx2)
      have Hsy := hide hsy
      clear hx2 hsy h
      go_enter Try.func75, Try.ntmps75
      go_wp2_with (go_at_call 78; refine (isterm_fn _ _).mono ?_; rintro e w' ⟨rfl, rfl⟩)
      all_goals first | (exfalso; omega) | skip
      go_ret2
      exact ⟨⟨x, by rw [Hsy.out]; rfl, fun l hl => by rw [Hsy.out] at hl; injection hl with hl; rw [← hl]; exact hS.out⟩, Below.refl _ _⟩
    · have hsy : symW L (m : Int) = none := by
        unfold symW; rw [if_neg (by omega), Int.toNat_natCast, List.getElem?_eq_none (by omega)]
      have Hsy := hide hsy
      clear hsy h
      go_enter Try.func75, Try.ntmps75
      go_wp2_with (go_at_call 78; refine (isterm_fn _ _).mono ?_; rintro e w' ⟨rfl, rfl⟩)
      all_goals first | (exfalso; omega) | skip
      go_ret2
      exact ⟨⟨_, by rw [Hsy.out]; rfl, fun l hl => by rw [Hsy.out] at hl; cases hl⟩, Below.refl _ _⟩
set_option maxHeartbeats 1000000 in
set_option maxRecDepth 8000 in
theorem fof_wide (k : Nat) (hk : k ≤ 1000) (b : Nat) (L : List (List (List UInt8))) (A : Option Addr) (c : Nat) (syms : List Int) (w : World) (hS : SS w b L) (hL : L.length ≤ 1000000) (hLw : Sized L)
    (hA : SlAt w w.heap.size A (ints syms)) (hc : syms.length ≤ c) (hn : syms.length ≤ 1000000) (hs : ∀ s ∈ syms, -9223372036854775808 ≤ s ∧ s ≤ 9223372036854775807) :
    Calls Try.prog 30 #[.slice (some ⟨b, 0, none⟩) L.length L.length, .int .i64 k, .slice A syms.length c] w (OfPost w (ofF k L syms [[]])) := by
  have HA := hide hA; have HS := hide hS; have Hs := hide hs
  have Hb0 : Hid (Below w.heap.size w (w.alloc (.cells #[.string { data := #[] }] 9))) := (Below.refl _ _).alloc (Nat.le_refl _) _
  have HV0 : Hid (SV (w.alloc (.cells #[.string { data := #[] }] 9)) (w.alloc (.cells #[.string { data := #[] }] 9)).heap.size (.slice (some ⟨w.heap.size, 0, none⟩) 1 1) (wsv [[]])) :=
    ⟨_, 1, rfl, by simp, by omega, (SlAt.lit w 9 (wsv [[]])).more (by simp), fun h => by cases h⟩
  have hbl := hS.lt
  clear hA hS hs
  go_enter Try.func30, Try.ntmps30
  go_wp2_with fail
  go_loopw [8, 16] (fun v i V => ∃ W, W = V ∧ Below w.heap.size w W ∧ ∃ (j : Nat) (out : List (List UInt8)), j ≤ syms.length ∧ i = .int .i64 j ∧ SV W W.heap.size v (wsv out) ∧ Words out ∧ Hid (ofF k L syms [[]] = ofF k L (syms.drop j) out)) (fun _ i _ => syms.length - (intOf i).toNat)
  case atStart => exact ⟨_, rfl, Hb0.out, 0, [[]], by omega, rfl, HV0.out, ⟨by simp, by simp⟩, rfl⟩
  case round =>
    clear Hb0 HV0
    obtain ⟨W, rfl, hb, j, out, hj, rfl, hv, hw, hof⟩ := hrel
    by_cases hlt : j < syms.length
    · obtain ⟨b1, off1, rfl, hb1, hcs⟩ := HA.out.at_ (k := j) (by simpa using hlt)
      have d1 := (hb.cell (p := ⟨b1, off1 + j, none⟩) hb1).trans (hcs j _ (ints_at syms j hlt))
      clear hcs
      have hsb := Hs.out _ (List.getElem_mem hlt)
      have Hone := hide (one_wide b L syms[j] W (HS.out.below hb) hL hsb)
      have hstep : ofF k L (syms.drop j) out = match symW L syms[j] with
          | none => none
          | some x => if (prodL k out x).length ≤ 4096 then ofF k L (syms.drop (j + 1)) (srt (prodL k out x)) else none := by
        rw [List.drop_eq_getElem_cons hlt]; rfl
      have Hb := hide hb; have HV := hide hv; have HW := hide hw
      clear hb hv hw
      rcases hsy : symW L syms[j] with _ | x
      · rw [hsy] at hstep
        have Hr := hide (hof.out.trans hstep)
        have hone2 : Hid (Calls Try.prog 75 #[.slice (some ⟨b, 0, none⟩) L.length L.length, .int .i64 syms[j]] W fun e w' => (∃ x, e = .returned (.tuple #[x, .bool false])) ∧ Below W.heap.size W w') :=
          Hone.out.mono fun e w' ⟨⟨x, h1, _⟩, h2⟩ => ⟨⟨x, by rw [h1, hsy]; rfl⟩, h2⟩
        clear hsy hstep Hone
        go_wp2_with (go_at_call 75; refine hone2.out.mono ?_; rintro e w1 ⟨⟨x, rfl⟩, hb2⟩)
        all_goals first | (exfalso; omega) | skip
        go_ret2
        exact ⟨by rw [Hr.out]; rfl, Hb.out.trans (hb2.mono Hb.out.size)⟩
      · rw [hsy] at hstep
        simp only at hstep
        have hone2 : Hid (Calls Try.prog 75 #[.slice (some ⟨b, 0, none⟩) L.length L.length, .int .i64 syms[j]] W fun e w' => (∃ y, e = .returned (.tuple #[y, .bool true]) ∧ SV w' w'.heap.size y (wsv x)) ∧ Below W.heap.size W w') :=
          Hone.out.mono fun e w' ⟨⟨y, h1, h3⟩, h2⟩ => ⟨⟨y, by rw [h1, hsy]; rfl, h3 x hsy⟩, h2⟩
        have hxw := symW_words hLw hsy
        clear hsy Hone
        have Hcat : Hid (∀ (W2 : World) (u v : Value), SV W2 W2.heap.size u (wsv out) → SV W2 W2.heap.size v (wsv x) → Calls Try.prog 76 #[.int .i64 k, u, v] W2 (CatPost W2 (prodL k out x))) :=
          fun W2 u v h1 h2 => wscat_any k hk u v out x W2 h1 h2 (by have := HW.out.1; omega) (by have := hxw.1; omega) (fun z hz => by have := HW.out.2 z hz; omega) (fun z hz => by have := hxw.2 z hz; omega)
        by_cases hD : (prodL k out x).length ≤ 4096
        · rw [if_pos hD] at hstep
          have Hr := hide (hof.out.trans hstep)
          have Hpw := hide (prodL_words k hk out x hD)
          have Hcat2 : Hid (∀ (W2 : World) (u v : Value), SV W2 W2.heap.size u (wsv out) → SV W2 W2.heap.size v (wsv x) → Calls Try.prog 76 #[.int .i64 k, u, v] W2 fun e w' => (∃ y, e = .returned (.tuple #[y, .bool true]) ∧ SV w' w'.heap.size y (wsv (srt (prodL k out x)))) ∧ Below W2.heap.size W2 w') :=
            fun W2 u v h1 h2 => (Hcat.out W2 u v h1 h2).mono fun e w' ⟨h3, h4⟩ => ⟨by
              rcases h3 with ⟨_, y, h5, h6⟩ | ⟨h5, _⟩
              · exact ⟨y, h5, SV.of_own h6⟩
              · omega, h4⟩
          clear hstep Hcat hD
          go_wp2_with (first
            | (go_at_call 75; refine hone2.out.mono ?_; rintro e w1 ⟨⟨y, rfl, hy⟩, hb2⟩; have HY := hide hy; have Hb2 := hide hb2; clear hy hb2)
            | (go_at_call 76; refine (Hcat2.out w1 _ y (HV.out.call Hb2.out) HY.out).mono ?_; rintro e w2 ⟨⟨z, rfl, hz⟩, hb3⟩; have HZ := hide hz; have Hb3 := hide hb3; clear hz hb3))
          all_goals first | (exfalso; omega) | skip
          go_roundw
          case rel => exact ⟨_, rfl, (Hb.out.trans (Hb2.out.mono Hb.out.size)).trans (Hb3.out.mono (Nat.le_trans Hb.out.size Hb2.out.size)), j + 1, _, by omega, by go_num, HZ.out, Hpw.out, Hr.out⟩
          case measure => simp [intOf]; omega
        · rw [if_neg hD] at hstep
          have Hr := hide (hof.out.trans hstep)
          have Hcat2 : Hid (∀ (W2 : World) (u v : Value), SV W2 W2.heap.size u (wsv out) → SV W2 W2.heap.size v (wsv x) → Calls Try.prog 76 #[.int .i64 k, u, v] W2 fun e w' => e = .returned (.tuple #[.slice none 0 0, .bool false]) ∧ Below W2.heap.size W2 w') :=
            fun W2 u v h1 h2 => (Hcat.out W2 u v h1 h2).mono fun e w' ⟨h3, h4⟩ => ⟨by
              rcases h3 with ⟨h5, _⟩ | ⟨_, h5⟩
              · omega
              · exact h5, h4⟩
          clear hstep Hcat hD
          go_wp2_with (first
            | (go_at_call 75; refine hone2.out.mono ?_; rintro e w1 ⟨⟨y, rfl, hy⟩, hb2⟩; have HY := hide hy; have Hb2 := hide hb2; clear hy hb2)
            | (go_at_call 76; refine (Hcat2.out w1 _ y (HV.out.call Hb2.out) HY.out).mono ?_; rintro e w2 ⟨rfl, hb3⟩; have Hb3 := hide hb3; clear hb3))
          all_goals first | (exfalso; omega) | skip
          go_ret2
          exact ⟨by rw [Hr.out]; rfl, (Hb.out.trans (Hb2.out.mono Hb.out.size)).trans (Hb3.out.mono (Nat.le_trans Hb.out.size Hb2.out.size))⟩
    · obtain rfl : j = syms.length := by omega
      have hr := hof.out
      rw [List.drop_length] at hr
      have Hr := hide hr
      clear hr
      go_wp2_with fail
      all_goals first | (exfalso; omega) | skip
      go_ret2
      exact ⟨by rw [Hr.out]; exact ⟨_, rfl, hv⟩, hb⟩

theorem ofF_none {k : Nat} {L : LS} : ∀ (syms : List Int) (out : List (List UInt8)), (∃ s ∈ syms, symW L s = none) → ofF k L syms out = none := by
  intro syms
  induction syms with
  | nil => intro out ⟨s, hs, _⟩; cases hs
  | cons t r ih =>
    intro out ⟨s, hs, hn⟩
    unfold ofF
    rcases List.mem_cons.1 hs with rfl | hs
    · rw [hn]
    · cases symW L t with
      | none => rfl
      | some x =>
        dsimp only
        split
        · exact ih _ ⟨s, hs, hn⟩
        · rfl
theorem symW_none {L : LS} {s : Int} (h : (L.length : Int) ≤ s ∨ s < -256) : symW L s = none := by
  unfold symW
  rcases h with h | h
  · rw [if_neg (by omega)]; exact List.getElem?_eq_none (by omega)
  · rw [if_pos (by omega), if_neg (by omega)]
end Go.Proofs.Ythpjjlmgdalpaaa
