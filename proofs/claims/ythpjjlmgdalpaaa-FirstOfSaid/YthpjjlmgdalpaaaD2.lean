/- first.Of. -/
import Derived.Test.YthpjjlmgdalpaaaD1
namespace Go.Proofs.Ythpjjlmgdalpaaa
open Go.RowKit

/-- The first set of a string of symbols, behind some words; none: there is none, or it has too many. -/
def ofF (k : Nat) (L : List (List (List UInt8))) : List Int → List (List UInt8) → Option (List (List UInt8))
  | [], out => some out
  | s :: r, out => match symW L s with
    | none => none
    | some x => if (prodL k out x).length ≤ 4096 then ofF k L r (srt (prodL k out x)) else none
def Sized (L : List (List (List UInt8))) : Prop := ∀ l ∈ L, l.length ≤ 5000 ∧ ∀ x ∈ l, x.length ≤ 1000
def Words (l : List (List UInt8)) : Prop := l.length ≤ 5000 ∧ ∀ x ∈ l, x.length ≤ 1000
theorem symW_words {L : List (List (List UInt8))} (hL : Sized L) {s : Int} {x : List (List UInt8)} (h : symW L s = some x) : Words x := by
  unfold symW at h
  split at h
  · split at h
    · injection h with h; subst h; exact ⟨by simp, by simp⟩
    · cases h
  · exact hL x (List.mem_of_getElem? h)
theorem mem_fold (l : List (List UInt8)) : ∀ (o : List (List UInt8)) (x : List UInt8), x ∈ l.foldl putW o ↔ x ∈ o ∨ x ∈ l := by
  induction l with
  | nil => intro o x; simp
  | cons y l ih =>
    intro o x
    rw [List.foldl_cons, ih]
    unfold putW
    split
    · next h =>
      constructor
      · rintro (h1 | h1)
        · exact .inl h1
        · exact .inr (.tail _ h1)
      · rintro (h1 | h1)
        · exact .inl h1
        · rcases List.mem_cons.1 h1 with rfl | h2
          · exact .inl h
          · exact .inr h2
    · simp only [List.mem_append, List.mem_cons, List.not_mem_nil, or_false, or_assoc]
theorem mem_prodL (k : Nat) (a b : List (List UInt8)) (z : List UInt8) : z ∈ prodL k a b ↔ ∃ x ∈ a, ∃ y ∈ restL k b x, z = (x ++ y).take k := by
  unfold prodL putsL
  rw [mem_fold]
  simp only [List.not_mem_nil, false_or, List.mem_flatMap, List.mem_map]
  constructor
  · rintro ⟨x, hx, y, hy, rfl⟩; exact ⟨x, hx, y, hy, rfl⟩
  · rintro ⟨x, hx, y, hy, rfl⟩; exact ⟨x, hx, y, hy, rfl⟩
theorem prodL_words (k : Nat) (hk : k ≤ 1000) (a b : List (List UInt8)) (h : (prodL k a b).length ≤ 4096) : Words (srt (prodL k a b)) := by
  refine ⟨Nat.le_trans (srt_len _) (by omega), fun x hx => ?_⟩
  rw [srt_mem, mem_prodL] at hx
  obtain ⟨_, _, _, _, rfl⟩ := hx
  rw [List.length_take]; omega

def OfPost (w : World) (r : Option (List (List UInt8))) (e : Ending) (w' : World) : Prop :=
  (match r with
    | some l => ∃ x, e = .returned (.tuple #[x, .bool true]) ∧ SV w' w'.heap.size x (wsv l)
    | none => e = .returned (.tuple #[.slice none 0 0, .bool false])) ∧ Below w.heap.size w w'

set_option maxHeartbeats 1000000 in
set_option maxRecDepth 8000 in
theorem fof_any (k : Nat) (hk : k ≤ 1000) (b : Nat) (L : List (List (List UInt8))) (A : Option Addr) (c : Nat) (syms : List Int) (w : World) (hS : SS w b L) (hL : L.length ≤ 1000000) (hLw : Sized L)
    (hA : SlAt w w.heap.size A (ints syms)) (hc : syms.length ≤ c) (hn : syms.length ≤ 1000000) (hs : ∀ s ∈ syms, -1000000 ≤ s ∧ s ≤ 1000000) :
    Calls Try.prog 30 #[.slice (some ⟨b, 0, none⟩) L.length L.length, .int .i64 k, .slice A syms.length c] w (OfPost w (ofF k L syms [[]])) := by
  have HA := hide hA; have HS := hide hS; have Hs := hide hs
  have Hb0 : Hid (Below w.heap.size w (w.alloc (.cells #[.string { data := #[] }] 9))) := (Below.refl _ _).alloc (Nat.le_refl _) _
  have HV0 : Hid (SV (w.alloc (.cells #[.string { data := #[] }] 9)) (w.alloc (.cells #[.string { data := #[] }] 9)).heap.size (.slice (some ⟨w.heap.size, 0, none⟩) 1 1) (wsv [[]])) :=
    ⟨_, 1, rfl, by simp, by omega, (SlAt.lit w 9 (wsv [[]])).more (by simp), fun h => by cases h⟩
  have hbl := hS.lt
  clear hA hS hs
  go_enter Try.func30, Try.ntmps30
  go_wp2_with fail
  go_loopw [8, 16] (fun v i V => ∃ W, W = V ∧ Below w.heap.size w W ∧ ∃ (j : Nat) (out : List (List UInt8)), j ≤ syms.length ∧ i = .int .i64 j ∧ SV W W.heap.size v (wsv out) ∧ Words out ∧ Hid (ofF k L syms [[]] = ofF k L (syms.drop j) out)) (fun _ i _ => syms.length - (intOf i).toNat)
  case atStart => exact ⟨_, rfl, Hb0.out, 0, [[]], by omega, rfl, HV0.out, ⟨by simp, by simp⟩, rfl⟩
  case round =>
    clear Hb0 HV0
    obtain ⟨W, rfl, hb, j, out, hj, rfl, hv, hw, hof⟩ := hrel
    by_cases hlt : j < syms.length
    · obtain ⟨b1, off1, rfl, hb1, hcs⟩ := HA.out.at_ (k := j) (by simpa using hlt)
      have d1 := (hb.cell (p := ⟨b1, off1 + j, none⟩) hb1).trans (hcs j _ (ints_at syms j hlt))
      clear hcs
      have hsb := Hs.out _ (List.getElem_mem hlt)
      have Hone := hide (one_any b L syms[j] W (HS.out.below hb) hL hsb)
      have hstep : ofF k L (syms.drop j) out = match symW L syms[j] with
          | none => none
          | some x => if (prodL k out x).length ≤ 4096 then ofF k L (syms.drop (j + 1)) (srt (prodL k out x)) else none := by
        rw [List.drop_eq_getElem_cons hlt]; rfl
      have Hb := hide hb; have HV := hide hv; have HW := hide hw
      clear hb hv hw
      rcases hsy : symW L syms[j] with _ | x
      · rw [hsy] at hstep
        have Hr := hide (hof.out.trans hstep)
        have hone2 : Hid (Calls Try.prog 75 #[.slice (some ⟨b, 0, none⟩) L.length L.length, .int .i64 syms[j]] W fun e w' => (∃ x, e = .returned (.tuple #[x, .bool false])) ∧ Below W.heap.size W w') :=
          Hone.out.mono fun e w' ⟨⟨x, h1, _⟩, h2⟩ => ⟨⟨x, by rw [h1, hsy]; rfl⟩, h2⟩
        clear hsy hstep Hone
        go_wp2_with (go_at_call 75; refine hone2.out.mono ?_; rintro e w1 ⟨⟨x, rfl⟩, hb2⟩)
        all_goals first | (exfalso; omega) | skip
        go_ret2
        exact ⟨by rw [Hr.out]; rfl, Hb.out.trans (hb2.mono Hb.out.size)⟩
      · rw [hsy] at hstep
        simp only at hstep
        have hone2 : Hid (Calls Try.prog 75 #[.slice (some ⟨b, 0, none⟩) L.length L.length, .int .i64 syms[j]] W fun e w' => (∃ y, e = .returned (.tuple #[y, .bool true]) ∧ SV w' w'.heap.size y (wsv x)) ∧ Below W.heap.size W w') :=
          Hone.out.mono fun e w' ⟨⟨y, h1, h3⟩, h2⟩ => ⟨⟨y, by rw [h1, hsy]; rfl, h3 x hsy⟩, h2⟩
        have hxw := symW_words hLw hsy
        clear hsy Hone
        have Hcat : Hid (∀ (W2 : World) (u v : Value), SV W2 W2.heap.size u (wsv out) → SV W2 W2.heap.size v (wsv x) → Calls Try.prog 76 #[.int .i64 k, u, v] W2 (CatPost W2 (prodL k out x))) :=
          fun W2 u v h1 h2 => wscat_any k hk u v out x W2 h1 h2 (by have := HW.out.1; omega) (by have := hxw.1; omega) (fun z hz => by have := HW.out.2 z hz; omega) (fun z hz => by have := hxw.2 z hz; omega)
        by_cases hD : (prodL k out x).length ≤ 4096
        · rw [if_pos hD] at hstep
          have Hr := hide (hof.out.trans hstep)
          have Hpw := hide (prodL_words k hk out x hD)
          have Hcat2 : Hid (∀ (W2 : World) (u v : Value), SV W2 W2.heap.size u (wsv out) → SV W2 W2.heap.size v (wsv x) → Calls Try.prog 76 #[.int .i64 k, u, v] W2 fun e w' => (∃ y, e = .returned (.tuple #[y, .bool true]) ∧ SV w' w'.heap.size y (wsv (srt (prodL k out x)))) ∧ Below W2.heap.size W2 w') :=
            fun W2 u v h1 h2 => (Hcat.out W2 u v h1 h2).mono fun e w' ⟨h3, h4⟩ => ⟨by
              rcases h3 with ⟨_, y, h5, h6⟩ | ⟨h5, _⟩
              · exact ⟨y, h5, SV.of_own h6⟩
              · omega, h4⟩
          clear hstep Hcat hD
          go_wp2_with (first
            | (go_at_call 75; refine hone2.out.mono ?_; rintro e w1 ⟨⟨y, rfl, hy⟩, hb2⟩; have HY := hide hy; have Hb2 := hide hb2; clear hy hb2)
            | (go_at_call 76; refine (Hcat2.out w1 _ y (HV.out.call Hb2.out) HY.out).mono ?_; rintro e w2 ⟨⟨z, rfl, hz⟩, hb3⟩; have HZ := hide hz; have Hb3 := hide hb3; clear hz hb3))
          all_goals first | (exfalso; omega) | skip
          go_roundw
          case rel => exact ⟨_, rfl, (Hb.out.trans (Hb2.out.mono Hb.out.size)).trans (Hb3.out.mono (Nat.le_trans Hb.out.size Hb2.out.size)), j + 1, _, by omega, by go_num, HZ.out, Hpw.out, Hr.out⟩
          case measure => simp [intOf]; omega
        · rw [if_neg hD] at hstep
          have Hr := hide (hof.out.trans hstep)
          have Hcat2 : Hid (∀ (W2 : World) (u v : Value), SV W2 W2.heap.size u (wsv out) → SV W2 W2.heap.size v (wsv x) → Calls Try.prog 76 #[.int .i64 k, u, v] W2 fun e w' => e = .returned (.tuple #[.slice none 0 0, .bool false]) ∧ Below W2.heap.size W2 w') :=
            fun W2 u v h1 h2 => (Hcat.out W2 u v h1 h2).mono fun e w' ⟨h3, h4⟩ => ⟨by
              rcases h3 with ⟨h5, _⟩ | ⟨_, h5⟩
              · omega
              · exact h5, h4⟩
          clear hstep Hcat hD
          go_wp2_with (first
            | (go_at_call 75; refine hone2.out.mono ?_; rintro e w1 ⟨⟨y, rfl, hy⟩, hb2⟩; have HY := hide hy; have Hb2 := hide hb2; clear hy hb2)
            | (go_at_call 76; refine (Hcat2.out w1 _ y (HV.out.call Hb2.out) HY.out).mono ?_; rintro e w2 ⟨rfl, hb3⟩; have Hb3 := hide hb3; clear hb3))
          all_goals first | (exfalso; omega) | skip
          go_ret2
          exact ⟨by rw [Hr.out]; rfl, (Hb.out.trans (Hb2.out.mono Hb.out.size)).trans (Hb3.out.mono (Nat.le_trans Hb.out.size Hb2.out.size))⟩
    · obtain rfl : j = syms.length := by omega
      have hr := hof.out
      rw [List.drop_length] at hr
      have Hr := hide hr
      clear hr
      go_wp2_with fail
      all_goals first | (exfalso; omega) | skip
      go_ret2
      exact ⟨by rw [Hr.out]; exact ⟨_, rfl, hv⟩, hb⟩
end Go.Proofs.Ythpjjlmgdalpaaa
